/- A part of the proofs of the laws. -/
import Derived.Test.YtlhoihabllompaaGreatVmReptoVmOps4
set_option linter.unusedSimpArgs false
set_option linter.unusedVariables false
set_option maxHeartbeats 8000000
set_option maxRecDepth 100000
/- The calm operations, last: slices of slices, greatest and least; all together. -/
namespace Go.Vm
open Go.RowKit
section
variable {P:Program} {σ:Sig} {β:yR} {w:World} {T:Tab} {hp:jJ}
def zLZ (x:Option Value) (d n:Nat):Prop:=match x with
 | none=>n=d
 | some v=> ∃ k i,v= .int k i/\0<=i/\i.toNat=n
theorem zBD (hT:zAA P T) {t u:TypeId} (hd:T.desc t= .slice u) (hu:T.sizeOf u≠0) {a:Option Addr} {len cap L H:Nat} {lo hi:Option Value}
 (hl:zLZ lo 0 L) (hh:zLZ hi len H) (h1:L<=H) (h2:H<=cap) :
 (Instr.sliceAt t (.slice a len cap) lo hi none).run P w= .ok (.slice (if cap=L then a else a.map (·.add (L*T.sizeOf u))) (H - L) (cap - L)) w:=by
 have hb:(Instr.sliceBounds true len cap lo hi none).run P w= .ok (L,H,cap) w:=by
  unfold Instr.sliceBounds;cases hi with
  | none =>
    obtain rfl:H=len:=hh;cases lo with
    | none=>obtain rfl:L=0:=hl;simp
    | some v=>obtain ⟨k,i,rfl,h0,rfl⟩:=hl;simp [Instr.sliceBound,asIntOf,h0,show i<=(H:Int) by omega]
  | some v =>
    obtain ⟨k,i,rfl,h0,rfl⟩:=hh;cases lo with
    | none=>obtain rfl:L=0:=hl;simp [Instr.sliceBound,asIntOf,h0,show i<=(cap:Int) by omega]
    | some v =>
      obtain ⟨k',j,rfl,h0',rfl⟩:=hl;have h3:j<=((i.toNat:Nat):Int):=by omega
      simp only [Instr.sliceBound,asIntOf,Sem.run_bind,Sem.run_pure,Result.andThen_ok,show 0<=i/\i<=(cap:Int) from by omega,and_self,if_true,show 0<=j/\j<=((i.toNat:Nat):Int) from ⟨h0',h3⟩]
 unfold Instr.sliceAt;rw [Sem.run_bind,hT.desc hd (by simp),Result.andThen_ok];show (Instr.slice t (.slice a len cap) lo hi none).run P w=_;unfold Instr.slice;rw [Sem.run_bind,hT.desc hd (by simp),Result.andThen_ok];simp only [Sem.run_bind,hb,Result.andThen_ok,zCx (w:=w) hT hu];rfl
theorem z52 {e:ETy} {xs:List e.T} {x:Value} (hx:y5 σ β (.sl e xs) x): ∃ a cap,x= .slice a xs.length cap/\xs.length<=cap/\∀ L H:Nat,L<=H->H<=xs.length->
 y5 σ β (.sl e ((xs.take H).drop L)) (.slice (if cap=L then a else a.map (·.add (L*e.size))) (H - L) (cap - L)):=by
 obtain ⟨a,cap,e1,hle,hcap,hr⟩:=hx;refine ⟨a,cap,(List.cons.inj e1).1,hcap,fun L H h1 h2=> ?_⟩;have hlen:((xs.take H).drop L).length=H - L:=by simp;omega
 refine ⟨_,_,by rw [hlen],by rw [hlen];omega,by rw [hlen];omega,fun hne=> ?_⟩
 have hpos:0<H - L:=by
  rcases Nat.eq_zero_or_pos (H - L) with h|h
  ·exact (hne (List.eq_nil_of_length_eq_zero (by omega))).elim
  ·exact h
 have hne':xs≠[]:=by rintro rfl;simp at h2;omega
 obtain ⟨b,o,rfl,hr'⟩:=hr hne';refine ⟨b,o+L*e.size,?_,fun i y hy=> ?_⟩
 ·rw [if_neg (by omega)];simp [Addr.add_none]
 ·have:xs[L+i]? =some y:=by
   rw [List.getElem?_drop,List.getElem?_take] at hy;split at hy
   ·exact hy
   ·cases hy
  obtain ⟨d,h3,h4⟩:=hr' _ _ this;exact ⟨d,h3,by rw [Nat.add_assoc,<- Nat.add_mul];exact h4⟩
def z5w (σ:Sig) (β:yR):Option AV->Option Value->Prop
 | none,none=>True
 | some a,some v=>y6 σ β a v
 | _,_=>False
theorem z5w.none' {v:Option Value} (h:z5w σ β none v) (d:Nat):zLZ v d d:=by
 cases v with
 | none=>rfl
 | some _=>exact h.elim
theorem z5w.some' {v:Option Value} {k:IntKind} {i:Int} (h:z5w σ β (some (.s (.int k i))) v) (h0:0<=i) (d:Nat):zLZ v d i.toNat:=by
 cases v with
 | none=>exact h.elim
 | some v=>obtain ⟨rfl,_⟩:=(show y6 σ β _ _ from h);exact ⟨k,i,rfl,h0,rfl⟩
theorem z0Y {id s n:Nat} {x:Value} (hx:y5 σ β (.own id s n) x) {sz:Nat} (hs: ∀ p,β[id]? =some (some p)->p.sz=sz): ∃ a cap,x= .slice a n cap/\n<=cap/\∀ L H:Nat,L<=H->H<=n->
 y5 σ β (.own id (s+L) (H - L)) (.slice (if cap=L then a else a.map (·.add (L*sz))) (H - L) (cap - L)):=by
 simp only [y5] at hx;cases hβ:β[id]? with
 | none=>simp [hβ] at hx
 | some q =>
   cases q with
   | none =>
     simp only [hβ] at hx;obtain ⟨rfl,rfl,rfl⟩:=hx;refine ⟨none,0,rfl,zI _,fun L H h1 h2=> ?_⟩;have:L=0:=by omega
     have:H=0:=by omega
     subst L H;simp [y5,hβ]
   | some p =>
     simp only [hβ] at hx;have hs:=hs p hβ;obtain ⟨a,cap,rfl,h1,h2,h3,h4⟩:=hx;refine ⟨some a,cap,rfl,h1,fun L H g1 g2=> ?_⟩;simp only [y5,hβ]
     by_cases hc:cap=L
     ·exact ⟨a,cap - L,by simp [hc],by omega,.inl (by omega),by rw [show s+L+(cap - L)=s+cap by omega];exact h3,by omega⟩
     ·obtain rfl:a=_:=h2.resolve_left (by omega);exact ⟨_,cap - L,by simp [hc];rfl,by omega,.inr (by rw [Addr.add_none,<- hs,Nat.add_mul,Nat.add_assoc]),by rw [show s+L+(cap - L)=s+cap by omega];exact h3,by omega⟩
theorem zOb (hT:zAA P T) (hm:Mem σ β hp w) {t:TypeId} {a:AV} {lo hi:Option AV} {x:Value} {vlo vhi:Option Value} (ha:y6 σ β a x)
 (hlo:z5w σ β lo vlo) (hhi:z5w σ β hi vhi):Snd P σ β w (zKe T t hp a lo hi) (Instr.sliceAt t x vlo vhi none):=by
 have nn: ∀ {u:TypeId},Nat.beq (T.sizeOf u) 0=false->T.sizeOf u≠0:=fun h e=>by rw [e] at h;cases h
 unfold zKe;split
 ·rename_i e xs u hd;split
  ·rename_i hb hz;have hu:=nn hz;have hb:=zH hb;obtain ⟨a,cap,rfl,hcap,hpart⟩:=z52 (σ:=σ) (β:=β) (show y5 σ β (.sl e xs) x from ha);rw [<- hb] at hpart;split
   ·refine Snd.need fun _=>⟨_,zBD hT hd hu (L:=0) (H:=xs.length) (hlo.none' _) (hhi.none' _) (by omega) hcap,?_⟩;simpa using hpart 0 xs.length (by omega) (by omega)
   ·refine Snd.need fun ⟨h0,h1⟩=>⟨_,zBD hT hd hu (hlo.some' h0 _) (hhi.none' _) (by omega) hcap,hpart _ _ (by omega) (by omega)⟩
   ·refine Snd.need fun ⟨h0,h1⟩=>⟨_,zBD hT hd hu (hlo.none' _) (hhi.some' h0 _) (by omega) (by omega),hpart _ _ (by omega) (by omega)⟩
   ·refine Snd.need fun ⟨h0,h1,h2⟩=>⟨_,zBD hT hd hu (hlo.some' h0 _) (hhi.some' (by omega) _) (by omega) (by omega),hpart _ _ (by omega) (by omega)⟩
   ·exact Snd.none
  ·exact Snd.none
 ·rename_i id s n u hd;split
  ·rename_i e u' xs hid;split
   ·rename_i hb hz;have hu:=nn hz;have hb:=zH hb
    obtain ⟨a,cap,rfl,hcap,hpart⟩:=z0Y (σ:=σ) (β:=β) (show y5 σ β (.own id s n) x from ha) (sz:=T.sizeOf u) (fun p hp'=>by
     have:=(hm.obp hid).2;simp only [hp'] at this
     rw [this.1,hb])
    split
    ·refine Snd.need fun ⟨h0,h1⟩=>⟨_,zBD hT hd hu (hlo.some' h0 _) (hhi.none' _) (by omega) hcap,hpart _ _ (by omega) (by omega)⟩
    ·rename_i k j;refine Snd.need fun ⟨h0,h1⟩=>⟨_,zBD hT hd hu (L:=0) (hlo.none' _) (hhi.some' h0 _) (by omega) (by omega),?_⟩;exact hpart 0 j.toNat (Nat.zero_le _) (by omega)
    ·refine Snd.need fun ⟨h0,h1,h2⟩=>⟨_,zBD hT hd hu (hlo.some' h0 _) (hhi.some' (by omega) _) (by omega) (by omega),hpart _ _ (by omega) (by omega)⟩
    ·exact Snd.none
   ·exact Snd.none
  ·exact Snd.none
 ·rename_i id n u hd;split
  ·rename_i t' cs hid;split
   ·rename_i hlen hz;have hu:=nn hz;refine Snd.ok ?_;obtain ⟨p,hp',rfl,hL⟩:=(show y5 σ β (.ptr id 0 0) x from ha);obtain ⟨p2,q0,q1,q2,q3,q4,c,q5,q6⟩:=hm.obp hid;rw [hp'] at q0;cases q0;have hvlo:vlo=none:=by cases vlo with|none=>rfl|some v=>exact (show False from hlo).elim
    have hvhi:vhi=none:=by cases vhi with|none=>rfl|some v=>exact (show False from hhi).elim
    subst hvlo;subst hvhi;have hlen:=zH hlen;refine ⟨_,?_,⟨p,hp',rfl,by rw [q2,hlen];exact zI _,hL⟩⟩;unfold Instr.sliceAt;rw [Sem.run_bind,hT.desc hd (by simp),Result.andThen_ok];simp [Instr.sureAddr,Instr.sliceBounds,zCx (w:=w) hT hu,Addr.add_none]
   ·exact Snd.none
  ·exact Snd.none
 ·exact Snd.none
theorem z4i {k:IntKind} {a b:Int} {ts:Array TypeId} {ty:TypeId} :(Builtin.max_ ts ty #[.int k a,.int k b]).run P w= .ok (.int k (max a b)) w:=by
 have:(if b>a then b else a)=max a b:=by
  rw [Int.max_def];split<;>split<;>omega
 simp [Builtin.max_,Builtin.max2,this]
theorem z3Q {k:IntKind} {a b:Int} {ts:Array TypeId} {ty:TypeId} :(Builtin.min_ ts ty #[.int k a,.int k b]).run P w= .ok (.int k (min a b)) w:=by
 have:(if b<a then b else a)=min a b:=by
  rw [Int.min_def];split<;>split<;>omega
 simp [Builtin.min_,Builtin.min2,this]
theorem z7l {k:IntKind} {a b:Int} (ha:InK k a) (hb:InK k b):InK k (max a b):=by
 rw [Int.max_def];split<;>assumption
theorem z6r {k:IntKind} {a b:Int} (ha:InK k a) (hb:InK k b):InK k (min a b):=by
 rw [Int.min_def];split<;>assumption
def z6v (σ:Sig) (β:yR) (ev:Operand->AV) (ρ:Operand->Value) (op:Op):Prop:= ∀ x∈op.operands,y6 σ β (ev x) (ρ x)
def Op.simple:Op->Bool
 | .lookup _ _ _ _=>false
 | .buildSlice _ _ _=>false
 | .call c=>match c.callee with
   | .builtin _=>true
   | _=>false
 | _=>true
theorem zJU (hT:zAA P T) (hO:zHM T) (hm:Mem σ β hp w) {o:Oper} {ev:Operand->AV} {ρ:Operand->Value} (he:z6v σ β ev ρ o.op) (hs:Op.simple o.op=true)
 {p q:Option Prop} {v:AV} (h:jO T o.op ev hp=some (p,q,v)):Opt p/\(Opt q->∃ val,(execOp ρ o).run P w= .ok (.value val) w/\y6 σ β v val):=by
 obtain ⟨dst,op,type,pos,after,guard⟩:=o
 have lift: ∀ {s:Sem Value} {r:Option Res},Snd P σ β w r s->r=some (p,q,v)->(∀ val,s.run P w= .ok val w->(execOp ρ ⟨dst,op,type,pos,after,guard⟩).run P w= .ok (.value val) w)->
  Opt p/\(Opt q->∃ val,(execOp ρ ⟨dst,op,type,pos,after,guard⟩).run P w= .ok (.value val) w/\y6 σ β v val):=by
  intro s r hs e hr;obtain ⟨h1,h2⟩:=hs p q v e;exact ⟨h1,fun hq=>let ⟨val,e1,e2⟩:=h2 hq;⟨val,hr val e1,e2⟩⟩
 cases op<;>simp only [jO] at h<;>simp only [z6v,Op.operands] at he
 case move x=>exact lift (s:=pure (ρ x)) (Snd.pure ⟨ρ x,rfl,he x (by simp)⟩) h (fun val e=>by cases e;rfl)
 case assign x=>exact lift (s:=pure (ρ x)) (Snd.pure ⟨ρ x,rfl,he x (by simp)⟩) h (fun val e=>by cases e;rfl)
 case pick c a b =>
  refine lift (zP8 (he c (by simp)) (he a (by simp)) (he b (by simp))) h (fun val e=> ?_);simp only [execOp,Sem.run_bind,bind_pure_comp,Sem.run_map] at e ⊢;cases h1:(asBool (ρ c)).run P w with
  | ok r w'=>simp only [h1,Result.andThen_ok] at e ⊢;cases e;rfl
  | halt x w'=>simp [h1] at e
 case build t ps =>
  refine lift (zNL (vs:=ps.map fun (i,x)=>(i,ρ x)) hT ?_) h (fun val e=>by simp [execOp,e]);rw [Array.toList_map]
  have: ∀ l:List (Nat×Operand),(∀ x∈l,y6 σ β (ev x.2) (ρ x.2))->jQ (fun (p:Nat×AV) (q:Nat×Value)=>p.1=q.1/\y6 σ β p.2 q.2) (l.map fun p=>(p.1,ev p.2)) (l.map fun (i,x)=>(i,ρ x)):=by
   intro l
   induction l with
   | nil=>intro _;trivial
   | cons a l ih=>intro hl;exact ⟨⟨rfl,hl a (by simp)⟩,ih fun x hx=>hl x (by simp [hx])⟩
  exact this _ fun x hx=>he x.2 (by simp;exact ⟨x.1,by simpa using hx⟩)
 case load t x=>exact lift (zBf hT hO hm (he x (by simp))) h (fun val e=>by simp [execOp,e])
 case nilCheck x =>
  obtain ⟨h1,h2⟩:=zVM (he x (by simp)) h;refine ⟨h1,fun hq=> ?_⟩;obtain ⟨⟨ad,e1⟩,h3⟩:=h2 hq;exact ⟨ρ x,by simp [execOp,e1],h3⟩
 case binOp op t x y u=>exact lift (zYf (ox:=x) (oy:=y) hT (he x (by simp)) (he y (by simp))) h (fun val e=>by simp only [execOp];rw [Sem.run_bind,e];rfl)
 case unOp op t x=>exact lift (zWT (he x (by simp))) h (fun val e=>by simp [execOp,e])
 case convert s d x =>
  split at h
  ·rename_i k hd;exact lift (zPw hT hd (by simp) (he x (by simp))) h (fun val e=>by simp [execOp,e])
  ·cases h
 case slice t x lo hi mx =>
  cases mx with
  | some _=>cases h
  | none =>
    refine lift (zOb (vlo:=lo.map ρ) (vhi:=hi.map ρ) hT hm (he x (by simp)) ?_ ?_) h (fun val e=>by simp [execOp,e])
    ·cases lo with
     | none=>trivial
     | some y=>exact he y (by simp)
    ·cases hi with
     | none=>trivial
     | some y=>exact he y (by simp)
 case fieldAddr t x f=>exact lift (zH4 hT (he x (by simp))) h (fun val e=>by simp [execOp,e])
 case field t x f=>exact lift (zMp hT hO (he x (by simp))) h (fun val e=>by simp [execOp,e])
 case indexAddr t x i=>exact lift (zDj hT hm (he x (by simp)) (he i (by simp))) h (fun val e=>by simp [execOp,e])
 case index t x i=>exact lift (zMz hT hO (he x (by simp)) (he i (by simp))) h (fun val e=>by simp [execOp,e])
 case lookup=>cases hs
 case buildSlice=>cases hs
 case extract x i=>exact lift (zS1 (he x (by simp))) h (fun val e=>by simp [execOp,e])
 case call c =>
  obtain ⟨callee,args,ts⟩:=c;cases callee with
  | value f=>cases hs
  | invoke r m=>cases hs
  | builtin b =>
    have hexec: ∀ (val:Value) (s:Sem Value),(∀ cs,builtin b ts type cs (args.map ρ)=(do pure (.value (<- s))))->s.run P w= .ok val w->
     (execOp ρ ⟨dst,.call ⟨.builtin b,args,ts⟩,type,pos,after,guard⟩).run P w= .ok (.value val) w:=by
     intro val s hs e;simp only [execOp,resolve,Sem.run_bind,Sem.run_pure,Result.andThen_ok,invoke];rw [hs,Sem.run_bind,e];rfl
    have two: ∀ {A B:AV},args.toList.map ev=[A,B]->∃ a b,args= #[a,b]/\A=ev a/\B=ev b/\y6 σ β (ev a) (ρ a)/\y6 σ β (ev b) (ρ b):=by
     intro A B hx
     match hargs:args.toList,hx with
     | [a,b],hx =>
       simp only [List.map_cons,List.map_nil,List.cons.injEq,and_true] at hx;obtain ⟨rfl,rfl⟩:=hx;have hA:args= #[a,b]:=by rw [<- Array.toArray_toList (xs:=args),hargs]
       subst hA;exact ⟨a,b,rfl,rfl,rfl,he a (by simp [Call.operands]),he b (by simp [Call.operands])⟩
     | [],hx=>simp at hx
     | [_],hx=>simp at hx
     | _::_::_::_,hx=>simp at hx
    replace h:zE1 T hp (.builtin b) ts.toList (args.toList.map ev)=some (p,q,v):=h;unfold zE1 at h;split at h
    ·rename_i x hb hx;cases hb;split at h
     ·rename_i t r hts
      match hargs:args.toList,hx with
      | [a],hx =>
        simp only [List.map_cons,List.map_nil,List.cons.injEq,and_true] at hx;subst hx;have hA:args= #[a]:=by rw [<- Array.toArray_toList (xs:=args),hargs]
        subst hA
        have ht:ts[0]? =some t:=by
         rw [<- zM,hts];rfl
        exact lift (zPg (ty:=type) hT hm ht (he a (by simp [Call.operands]))) h (fun val e=>hexec val _ (fun _=>rfl) (by simpa using e))
      | [],hx=>simp at hx
      | _::_::_,hx=>simp at hx
     ·cases h
    ·rename_i k a k' b' hb hx;cases hb;obtain ⟨oa,ob,rfl,e1,e2,h1,h2⟩:=two hx;rw [<- e1] at h1;rw [<- e2] at h2;obtain ⟨h1,h1'⟩:=h1;obtain ⟨h2,h2'⟩:=h2;split at h
     ·rename_i hk _;subst hk;refine lift (s:=Builtin.max_ ts type #[ρ oa,ρ ob]) (Snd.ok (a:= .int _ (max _ _)) ⟨_,by rw [h1,h2];exact z4i,rfl,z7l h1' h2'⟩) h (fun val e=>hexec val _ (fun _=>rfl) (by simpa using e))
     ·cases h
    ·rename_i k a k' b' hb hx;cases hb;obtain ⟨oa,ob,rfl,e1,e2,h1,h2⟩:=two hx;rw [<- e1] at h1;rw [<- e2] at h2;obtain ⟨h1,h1'⟩:=h1;obtain ⟨h2,h2'⟩:=h2;split at h
     ·rename_i hk _;subst hk;refine lift (s:=Builtin.min_ ts type #[ρ oa,ρ ob]) (Snd.ok (a:= .int _ (min _ _)) ⟨_,by rw [h1,h2];exact z3Q,rfl,z6r h1' h2'⟩) h (fun val e=>hexec val _ (fun _=>rfl) (by simpa using e))
     ·cases h
    all_goals first|contradiction|cases h
 all_goals (cases h)
end
end Go.Vm
/- What holds between the abstract state and the model's, and how it is kept. -/
namespace Go.Vm
open Go.RowKit
structure Base where
 w:World
 sg:Sig
 dfs:List Deferred:=[]
def zTG (B:Base) (σ:Sig):Prop:=B.sg.le σ/\∀ b,b<B.w.heap.size->σ b=B.sg b
structure GG (B:Base) (σ:Sig) (β:yR) (st:St) (tmps:Array Value) (w:World):Prop where
 mem:Mem σ β st.hp w
 env: ∀ t,y6 σ β (yZ st.env t) (tmps.getD t undef)
 len:β.length=st.next
 sep: ∀ id ob p,hget st.hp id=some ob->β[id]? =some (some p)->σ p.b=none/\B.w.heap.size<=p.b/\
  ∀ id' ob' p',id'≠id->hget st.hp id'=some ob'->β[id']? =some (some p')->p'.b≠p.b
 bel:Below B.w.heap.size B.w w
 grew:zTG B σ
def G (B:Base) (st:St) (a:Act) (w:World):Prop:=a.defers=B.dfs/\∃ σ β,GG B σ β st a.tmps w
section
variable {B:Base} {w:World} {σ:Sig} {β:yR} {st:St} {tmps:Array Value}
theorem y6.undef:y6 σ β .undef undef:=⟨rfl,fun cs h=>by cases h⟩
theorem qR (k:Nat) (v:AV) (r:Env) (t:Nat):yZ ((k,v)::r) t=if k=t then v else yZ r t:=by
 simp only [yZ]
 by_cases h:k=t
 ·subst h;simp [Nat.beq_refl]
 ·rw [if_neg h]
  have:Nat.beq k t=false:=by
   cases e:Nat.beq k t with
   | false=>rfl
   | true=>exact (h (zH e)).elim
  rw [this]
theorem yL (k:Nat) (v:Ob) (r:jJ) (t:Nat):hget ((k,v)::r) t=if k=t then some v else hget r t:=by
 simp only [hget]
 by_cases h:k=t
 ·subst h;simp [Nat.beq_refl]
 ·rw [if_neg h]
  have:Nat.beq k t=false:=by
   cases e:Nat.beq k t with
   | false=>rfl
   | true=>exact (h (zH e)).elim
  rw [this]
theorem zQr (tmps:Array Value) (d t:Nat) (v:Value) (h:d<tmps.size):(tmps.setIfInBounds d v).getD t undef=if d=t then v else tmps.getD t undef:=by
 simp only [zL,Array.getElem?_setIfInBounds]
 by_cases e:d=t
 ·subst e;simp [h]
 ·simp [e]
def zBE (d:Option Tmp) (tmps:Array Value):Prop:= ∀ t,d=some t->t<tmps.size
def zHa (tmps:Array Value) (d:Option Tmp) (v:Value):Array Value:=match d with
 | some t=>tmps.setIfInBounds t v
 | none=>tmps
theorem GG.put (h:GG B σ β st tmps w) {d:Option Tmp} (hd:zBE d tmps) {a:AV} {v:Value} (hv:y6 σ β a v):GG B σ β (st.put d a) (zHa tmps d v) w:=by
 cases d with
 | none=>exact h
 | some t =>
   refine ⟨h.mem,fun t'=> ?_,h.len,h.sep,h.bel,h.grew⟩;show y6 σ β (yZ ((t,a)::st.env) t') ((tmps.setIfInBounds t v).getD t' Go.undef);rw [qR,zQr _ _ _ _ (hd t rfl)];split
   ·exact hv
   ·exact h.env t'
theorem zAf.keep {w':World} {id:Nat} {ob:Ob} (q:Option Bk) (h:zAf σ β w id ob) (hk: ∀ p,β[id]? =some (some p)->w'.heap[p.b]? =w.heap[p.b]?) (hkn: ∀ b o,σ b=some o->w'.heap[b]? =w.heap[b]?):zAf σ (β++[q]) w' id ob:=by
 have key: ∀ {x:Option Bk},β[id]? =some x->(β++[q])[id]? =some x:=fun {x} e=>by
  rw [List.getElem?_append_left];exact e;exact (zK.1 e).1
 cases ob with
 | row e T xs =>
   obtain ⟨h0,h⟩:=h;refine ⟨h0,?_⟩;cases hβ:β[id]? with
   | none=>simp [hβ] at h
   | some x =>
     rw [key hβ];cases x with
     | none=>simpa [hβ] using h
     | some p =>
       simp only [hβ] at h ⊢;obtain ⟨h1,h2,h3,c,h4,h5⟩:=h;exact ⟨h1,h2,h3,c,by rw [hk p hβ];exact h4,h5⟩
 | flat T cs =>
   obtain ⟨p,h1,h2,h3,h4,h5,c,h6,h7⟩:=h;exact ⟨p,key h1,h2,h3,h4,h5,c,by rw [hk p h1];exact h6,h7.mono fun _ _=>y5.more q⟩
 | map k v m =>
   obtain ⟨h0,p,es,clock,h1,h2,h3⟩:=h;exact ⟨h0,p,es,clock,key h1,by rw [hk p h1];exact h2,h3⟩
 | gmap k e m =>
   obtain ⟨h0,p,es,clock,h1,h2,h3,h4,h5,h6⟩:=h;exact ⟨h0,p,es,clock,key h1,by rw [hk p h1];exact h2,h3,h4,h5.keep (fun _ _ e=>e) hkn,h6⟩
 | grow e T xss =>
   obtain ⟨h0,p,h1,h2,h3,h4,c,h5,h6,h7,h8⟩:=h;exact ⟨h0,p,key h1,h2,h3,h4,c,by rw [hk p h1];exact h5,h6,h7,h8.keep (fun _ _ e=>e) hkn⟩
 | fr X l=>exact ⟨key h.1,fun t=>(h.2 t).more q⟩
theorem zAf.same {w':World} {id:Nat} {ob:Ob} (h:zAf σ β w id ob) (hk: ∀ p,β[id]? =some (some p)->w'.heap[p.b]? =w.heap[p.b]?) (hkn: ∀ b o,σ b=some o->w'.heap[b]? =w.heap[b]?):zAf σ β w' id ob:=by
 cases ob with
 | row e T xs =>
   obtain ⟨h0,h⟩:=h;refine ⟨h0,?_⟩;cases hβ:β[id]? with
   | none=>simp [hβ] at h
   | some x =>
     cases x with
     | none=>simpa [hβ] using h
     | some p =>
       simp only [hβ] at h ⊢;obtain ⟨h1,h2,h3,c,h4,h5⟩:=h;exact ⟨h1,h2,h3,c,by rw [hk p hβ];exact h4,h5⟩
 | flat T cs =>
   obtain ⟨p,h1,h2,h3,h4,h5,c,h6,h7⟩:=h;exact ⟨p,h1,h2,h3,h4,h5,c,by rw [hk p h1];exact h6,h7⟩
 | map k v m =>
   obtain ⟨h0,p,es,clock,h1,h2,h3⟩:=h;exact ⟨h0,p,es,clock,h1,by rw [hk p h1];exact h2,h3⟩
 | gmap k e m =>
   obtain ⟨h0,p,es,clock,h1,h2,h3,h4,h5,h6⟩:=h;exact ⟨h0,p,es,clock,h1,by rw [hk p h1];exact h2,h3,h4,h5.keep (fun _ _ e=>e) hkn,h6⟩
 | grow e T xss =>
   obtain ⟨h0,p,h1,h2,h3,h4,c,h5,h6,h7,h8⟩:=h;exact ⟨h0,p,h1,h2,h3,h4,c,by rw [hk p h1];exact h5,h6,h7,h8.keep (fun _ _ e=>e) hkn⟩
 | fr X l=>exact h
theorem zAf.sig {τ:Sig} {id:Nat} {ob:Ob} (hs:σ.le τ) (hx: ∀ b o,σ b=some o->τ b=some o) (h:zAf σ β w id ob):zAf τ β w id ob:=by
 cases ob with
 | row e T xs =>
   obtain ⟨h0,h⟩:=h;refine ⟨h0,?_⟩;cases hβ:β[id]? with
   | none=>simp [hβ] at h
   | some x =>
     cases x with
     | none=>simpa [hβ] using h
     | some p =>
       simp only [hβ] at h ⊢;obtain ⟨h1,h2,h3,c,h4,h5,h6⟩:=h;exact ⟨h1,h2,h3,c,h4,h5,fun i x hx=>let ⟨d,e1,e2⟩:=h6 i x hx;⟨d,e1.mono hs,e2⟩⟩
 | flat T cs =>
   obtain ⟨p,h1,h2,h3,h4,h5,c,h6,h7⟩:=h;exact ⟨p,h1,h2,h3,h4,h5,c,h6,h7.mono fun _ _=>y5.mono hs⟩
 | map k v m =>
   obtain ⟨h0,p,es,clock,h1,h2,h3,h4⟩:=h;exact ⟨h0,p,es,clock,h1,h2,h3,fun i x hx=>let ⟨en,dk,dv,e1,e2,e3,e4,e5⟩:=h4 i x hx;⟨en,dk,dv,e1,e2.mono hs,e3,e4.mono hs,e5⟩⟩
 | gmap k e m =>
   obtain ⟨h0,p,es,clock,h1,h2,h3,h4,h5,h6⟩:=h;exact ⟨h0,p,es,clock,h1,h2,h3,fun i x hx=>let ⟨en,dk,dv,e1,e2,e3,e4,e5⟩:=h4 i x hx;⟨en,dk,dv,e1,e2.mono hs,e3,e4.mono hs,e5⟩,h5.keep hx (fun _ _ _=>rfl),h6⟩
 | grow e T xss =>
   obtain ⟨h0,p,h1,h2,h3,h4,c,h5,h6,h7,h8⟩:=h;exact ⟨h0,p,h1,h2,h3,h4,c,h5,h6,fun i x hx=>let ⟨v,e1,e2⟩:=h7 i x hx;⟨v,e1.mono hs,e2⟩,h8.keep hx fun _ _ _=>rfl⟩
 | fr X l=>exact ⟨h.1,fun t=>(h.2 t).mono hs⟩
theorem zAf.place {id:Nat} {ob:Ob} (h:zAf σ β w id ob): ∃ x,β[id]? =some x:=by
 cases ob with
 | row e T xs =>
   cases hβ:β[id]? with
   | none=>simp [zAf,hβ] at h
   | some x=>exact ⟨x,rfl⟩
 | flat T cs=>obtain ⟨p,h1,_⟩:=h;exact ⟨_,h1⟩
 | map k v m=>obtain ⟨_,p,_,_,h1,_⟩:=h;exact ⟨_,h1⟩
 | gmap k e m=>obtain ⟨_,p,_,_,h1,_⟩:=h;exact ⟨_,h1⟩
 | grow e T xss=>obtain ⟨_,p,h1,_⟩:=h;exact ⟨_,h1⟩
 | fr X l=>exact ⟨_,h.1⟩
theorem zAf.lt {id:Nat} {ob:Ob} {p:Bk} (h:zAf σ β w id ob) (hp:β[id]? =some (some p)):p.b<w.heap.size:=by
 have: ∃ o,w.heap[p.b]? =some o:=by
  cases ob with
  | row e T xs=>have:=h.2;simp only [hp] at this;obtain ⟨_,_,_,c,h4,_⟩:=this;exact ⟨_,h4⟩
  | flat T cs=>obtain ⟨p2,h1,_,_,_,_,c,h6,_⟩:=h;rw [hp] at h1;cases h1;exact ⟨_,h6⟩
  | map k v m=>obtain ⟨_,p2,es,clock,h1,h2,_⟩:=h;rw [hp] at h1;cases h1;exact ⟨_,h2⟩
  | gmap k e m=>obtain ⟨_,p2,es,clock,h1,h2,_⟩:=h;rw [hp] at h1;cases h1;exact ⟨_,h2⟩
  | grow e T xss=>obtain ⟨_,p2,h1,_,_,_,c,h5,_⟩:=h;rw [hp] at h1;cases h1;exact ⟨_,h5⟩
  | fr X l=>have h1:=h.1;rw [hp] at h1;cases h1
 obtain ⟨o,ho⟩:=this;exact (zW.1 ho).1
theorem GG.id_lt (h:GG B σ β st tmps w) {id:Nat} {ob:Ob} (hi:hget st.hp id=some ob):id<st.next:=by
 obtain ⟨x,hx⟩:=(h.mem.ob _ _ hi).place;rw [<- h.len];exact (zK.1 hx).1
theorem GG.fresh (h:GG B σ β st tmps w) {d:Option Tmp} (hd:zBE d tmps) {ob:Ob} {q:Option Bk} {a:AV} {v:Value} {w':World}
 (hw: ∀ k,k<w.heap.size->w'.heap[k]? =w.heap[k]?) (hb:Below B.w.heap.size w w') (hq: ∀ p,q=some p->p.b=w.heap.size)
 (ho:zAf σ (β++[q]) w' st.next ob) (hv:y6 σ (β++[q]) a v) :
 GG B σ (β++[q]) (({st with hp:=(st.next,ob)::st.hp,next:=st.next+1} :St).put d a) (zHa tmps d v) w':=by
 have hlast:(β++[q])[st.next]? =some q:=by rw [<- h.len];simp
 have hold: ∀ {id:Nat},id<st.next->(β++[q])[id]? =β[id]? :=fun hi=>by rw [List.getElem?_append_left];rw [h.len];exact hi
 have hsig: ∀ b o,σ b=some o->b<w.heap.size:=fun b o e=>h.mem.ag.lt e
 have base:GG B σ (β++[q]) {st with hp:=(st.next,ob)::st.hp,next:=st.next+1} tmps w':=by
  refine ⟨⟨fun b o e=> ?_,fun id ob' hi=> ?_⟩,fun t=>(h.env t).more q,by simp [h.len],fun id ob' p hi hp=> ?_,h.bel.trans hb,h.grew⟩
  ·rw [hw b (hsig b o e)];exact h.mem.ag _ _ e
  ·simp only [yL] at hi;split at hi
   ·rename_i e;subst e;cases hi;exact ho
   ·exact (h.mem.ob _ _ hi).keep q (fun p hp=>hw _ ((h.mem.ob _ _ hi).lt hp)) fun b o e=>hw b (hsig b o e)
  ·simp only [yL] at hi;split at hi
   ·rename_i e;subst e;rw [hlast] at hp;cases hp;have hpb:=hq p rfl;refine ⟨?_,by rw [hpb];exact h.bel.size,fun id' ob'' p' hne hi' hp'=> ?_⟩
    ·cases e:σ p.b with
     | none=>rfl
     | some o=>have:=hsig _ _ e;omega
    ·simp only [yL] at hi';rw [if_neg (Ne.symm hne)] at hi';have hlt:=h.id_lt hi';rw [hold hlt] at hp';have:=(h.mem.ob _ _ hi').lt hp';omega
   ·rename_i hne;have hlt:=h.id_lt hi;rw [hold hlt] at hp;obtain ⟨s1,s2,s3⟩:=h.sep _ _ _ hi hp;refine ⟨s1,s2,fun id' ob'' p' hne' hi' hp'=> ?_⟩;simp only [yL] at hi';split at hi'
    ·rename_i e;subst e;rw [hlast] at hp';cases hp';have:=hq p' rfl;have:=(h.mem.ob _ _ hi).lt hp;omega
    ·have hlt':=h.id_lt hi';rw [hold hlt'] at hp';exact s3 _ _ _ hne' hi' hp'
 exact base.put hd hv
theorem GG.turn (h:GG B σ β st tmps w) {id:Nat} {ob ob':Ob} {p:Bk} (hi:hget st.hp id=some ob) (hp:β[id]? =some (some p)) {w':World}
 (hw: ∀ k,k≠p.b->w'.heap[k]? =w.heap[k]?) (hb:Below B.w.heap.size w w') (ho:zAf σ β w' id ob'):GG B σ β {st with hp:=zA6 st.hp id ob'} tmps w':=by
 have hget_set: ∀ {l:jJ} {i:Nat},(∃ o,hget l id=some o)->hget (zA6 l id ob') i=if i=id then some ob' else hget l i:=by
  intro l i
  induction l with
  | nil=>intro ⟨o,e⟩;cases e
  | cons x r ih =>
    obtain ⟨k,v⟩:=x;intro ⟨o,e⟩;simp only [zA6];cases hk:Nat.beq k id with
    | true =>
      have:=zH hk;subst this;simp only [yL]
      by_cases e:i=k
      ·subst e;simp
      ·rw [if_neg (Ne.symm e),if_neg (Ne.symm e),if_neg e]
    | false =>
      have hne:k≠id:=by intro e;subst e;simp [Nat.beq_refl] at hk
      simp only [yL] at e ⊢;rw [if_neg hne] at e;rw [ih ⟨o,e⟩]
      by_cases e1:k=i
      ·subst e1;simp [hne]
      ·simp [e1]
 obtain ⟨s1,s2,s3⟩:=h.sep _ _ _ hi hp;refine ⟨⟨fun b o e=> ?_,fun id' ob'' hi'=> ?_⟩,h.env,h.len,fun id' ob'' p' hi' hp'=> ?_,h.bel.trans hb,h.grew⟩
 ·rw [hw b (by rintro rfl;rw [s1] at e;cases e)];exact h.mem.ag _ _ e
 ·simp only [hget_set ⟨_,hi⟩] at hi';split at hi'
  ·rename_i e;subst e;cases hi';exact ho
  ·rename_i hne;exact (h.mem.ob _ _ hi').same (fun q hq=>hw _ (s3 _ _ _ hne hi' hq)) fun b o e=>hw b (by rintro rfl;rw [s1] at e;cases e)
 ·simp only [hget_set ⟨_,hi⟩] at hi';split at hi'
  ·rename_i e;subst e;rw [hp] at hp';cases hp';refine ⟨s1,s2,fun id2 ob2 p2 hne hi2 hp2=> ?_⟩;simp only [hget_set ⟨_,hi⟩] at hi2;rw [if_neg hne] at hi2;exact s3 _ _ _ hne hi2 hp2
  ·rename_i hne;obtain ⟨t1,t2,t3⟩:=h.sep _ _ _ hi' hp';refine ⟨t1,t2,fun id2 ob2 p2 hne2 hi2 hp2=> ?_⟩;simp only [hget_set ⟨_,hi⟩] at hi2;split at hi2
   ·rename_i e;subst e;rw [hp] at hp2;cases hp2;exact fun e=>(s3 _ _ _ hne hi' hp') e.symm
   ·exact t3 _ _ _ hne2 hi2 hp2
end
end Go.Vm
/- The operations that make or turn what the function owns. -/
namespace Go.Vm
open Go.RowKit
def zLi (P:Program) (B:Base) (o:Oper) (ρ:Operand->Value) (st':St) (tmps:Array Value) (w:World):Prop :=
 ∃ v w' σ' β',((execOp ρ o).run P w= .ok (.value v) w'\/((execOp ρ o).run P w= .ok .skip w'/\v=undef))/\GG B σ' β' st' (zHa tmps o.dst v) w'
def zZ8 (P:Program) (B:Base) (β:yR) (o:Oper) (ρ:Operand->Value) (st':St) (tmps:Array Value) (w:World):Prop :=
 ∃ v w' σ',((execOp ρ o).run P w= .ok (.value v) w'\/((execOp ρ o).run P w= .ok .skip w'/\v=undef))/\GG B σ' β st' (zHa tmps o.dst v) w'
theorem zZ8.done {P:Program} {B:Base} {β:yR} {o:Oper} {ρ:Operand->Value} {st':St} {tmps:Array Value} {w:World} (h:zZ8 P B β o ρ st' tmps w):zLi P B o ρ st' tmps w :=
 let ⟨v,w',σ',h1,h2⟩:=h;⟨v,w',σ',β,h1,h2⟩
section
variable {P:Program} {B:Base} {w:World} {σ:Sig} {β:yR} {st:St} {tmps:Array Value} {T:Tab} {o:Oper} {ρ:Operand->Value}
theorem Below.alloc' {b:Nat} (w:World) (o:Obj) (h:b<=w.heap.size):Below b w (w.alloc o):=(Below.refl b w).alloc h o
theorem alloc_old (w:World) (o:Obj) (k:Nat) (h:k<w.heap.size):(w.alloc o).heap[k]? =w.heap[k]? :=Go.heap_alloc_old w o h
theorem zKj (h:GG B σ β st tmps w) (hd:zBE o.dst tmps) {t:TypeId} {cs:List AS} {c:Array Value} (hc:jQ (y5 σ β) cs c.toList)
 (hrun:(execOp ρ o).run P w= .ok (.value (.pointer (some ⟨w.heap.size,0,none⟩))) (w.alloc (.cells c t))):zLi P B o ρ (zC1 st o.dst t cs) tmps w:=by
 refine ⟨_,_,σ,_,.inl hrun,h.fresh (q:=some ⟨w.heap.size,0,cs.length,cs.length,1⟩) hd (alloc_old w _) (Below.alloc' w _ h.bel.size) (by rintro p ⟨⟩;rfl) ?_ ?_⟩
 ·refine ⟨⟨w.heap.size,0,cs.length,cs.length,1⟩,by rw [<- h.len];simp,rfl,rfl,rfl,rfl,c,Go.heap_alloc_new w _,hc.mono fun _ _=>y5.more _⟩
 ·exact ⟨⟨w.heap.size,0,cs.length,cs.length,1⟩,by rw [<- h.len];simp,by simp,Nat.lt_succ_self 0⟩
theorem zTN (h:GG B σ β st tmps w) (hd:zBE o.dst tmps) {t:TypeId} {x:Operand} (ho:o.op= .box t x) {a:AV} (ha:y6 σ β a (ρ x)) {cs:List AS} (hf:a.flat=some cs) :
 zLi P B o ρ (zC1 st o.dst t cs) tmps w:=by
 refine zKj h hd (zBC ha hf) ?_;simp [execOp,ho,Instr.box,newVar,newRow]
theorem zNh (hT:zAA P T) (h:GG B σ β st tmps w) (hd:zBE o.dst tmps) {t:TypeId} (ho:o.op= .alloc t) {ti:TI} (hti:T.info t=some ti) :
 zLi P B o ρ (zC1 st o.dst t ti.zero) tmps w:=by
 obtain ⟨i,z,hi,hs,hb,hz,hzl⟩:=(hT _ _ hti).get;refine zKj (c:=z.cells) h hd (by rw [hzl];exact zEe (hT _ _ hti).zok) ?_;simp [execOp,ho,Instr.alloc,zeroValue,typeInfo,hi,hz,newVar,newRow]
theorem zMM (h:GG B σ β st tmps w) (hd:zBE o.dst tmps) {x:Operand} (ho:o.op= .assign x) {a:AV} (ha:y6 σ β a (ρ x)) {t:TypeId} {p q:Option Prop} {st':St}
 (he:zP7 T t a st o.dst=some (p,q,st')):Opt p/\(Opt q->zLi P B o ρ st' tmps w):=by
 unfold zP7 at he;split at he
 ·split at he
  ·split at he
   ·rename_i u hdc ui hui e hety;cases he;obtain ⟨h1,_⟩:=ha;refine ⟨trivial,fun _=>⟨_,w,σ,β++[none],.inl (by simp [execOp,ho];rfl),?_⟩⟩;refine h.fresh hd (fun _ _=>rfl) (Below.refl _ _) (by rintro p ⟨⟩) ?_ ?_
    ·refine ⟨by simp,?_⟩;have:(β++[none])[st.next]? =some none:=by rw [<- h.len];simp
     rw [this]
    ·show y5 σ (β++[none]) (.own st.next 0 0) (ρ x);have:(β++[none])[st.next]? =some none:=by rw [<- h.len];simp
     simp [y5,this,h1]
   ·cases he
  ·cases he
 ·cases he
theorem jG.one: ∀ {e:ETy} {x:e.T} {ds:List Value},jG σ e x ds->∀ u∈ds,u.oneCell'=true
 | .int _,_,_,h=>by obtain ⟨rfl,_⟩:=h;simp [Value.oneCell']
 | .bool,_,_,h=>by rw [show _=_ from h];simp [Value.oneCell']
 | .arr2,_,_,h=>by obtain ⟨rfl,_⟩:=h;simp [Value.oneCell']
 | .arr3,_,_,h=>by obtain ⟨rfl,_⟩:=h;simp [Value.oneCell']
 | .pair _ _,_,_,h=>by obtain ⟨d1,d2,rfl,h1,h2⟩:=h;intro u hu;rcases yD.1 hu with hu|hu;exact h1.one u hu;exact h2.one u hu
 | .sl _,_,_,h=>by obtain ⟨a,cap,rfl,_⟩:=h;simp [Value.oneCell']
 | .mp _ _,_,_,h=>by obtain ⟨r,rfl,_⟩:=h;simp [Value.oneCell']
 | .pt _,none,_,h=>by rw [show _=_ from h];simp [Value.oneCell']
 | .pt _,some _,_,h=>by obtain ⟨b,off,d,rfl,_⟩:=h;simp [Value.oneCell']
 | .unit,_,_,h=>by rw [show _=_ from h];simp
 | .fnc,o,_,h=>by rw [show _=_ from h];cases o<;>simp [fnV,Value.oneCell']
theorem zDp {e:ETy} {look:Nat->Option Value} : ∀ {xs:List e.T} {k:Nat},(∀ (i:Nat) (x:e.T),xs[i]? =some x->∃ d,jG σ e x d/\∀ (j:Nat) (u:Value),d[j]? =some u->look (k+i*e.size+j)=some u)->
 ∃ dss:List (List Value),jQ (jG σ e) xs dss/\∀ (j:Nat) (u:Value),dss.flatten[j]? =some u->look (k+j)=some u
 | [],k,_=>⟨[],trivial,by simp⟩
 | x ::xs,k,h=>by
   obtain ⟨d,hd,hl⟩:=h 0 x rfl
   obtain ⟨dss,h1,h2⟩:=zDp (xs:=xs) (k:=k+e.size) (fun i y hy=>by
    obtain ⟨d',h3,h4⟩:=h (i+1) y (by simpa using hy);refine ⟨d',h3,fun j u hu=> ?_⟩;have:=h4 j u hu;rw [Nat.succ_mul] at this
    rw [<- this];congr 1;omega)
   refine ⟨d::dss,⟨hd,h1⟩,fun j u hu=> ?_⟩;simp only [List.flatten_cons,List.getElem?_append] at hu;split at hu
   ·have:=hl j u hu;simpa using this
   ·rename_i hge;have:=h2 _ _ hu;rw [<- this];have:=hd.length
    congr 1;omega
theorem zBF {e:ETy} : ∀ {xs:List e.T} {dss:List (List Value)},jQ (jG σ e) xs dss->dss.flatten.length=xs.length*e.size
 | [],[],_=>by simp
 | _::_,_::_,h=>by simp only [List.flatten_cons,zN,yA,zBF h.2,h.1.length,Nat.succ_mul];omega
 | [],_::_,h=>h.elim
 | _::_,[],h=>h.elim
theorem zDC {e:ETy} {look:Nat->Option Value} : ∀ {xs:List e.T} {dss:List (List Value)} {k:Nat},jQ (jG σ e) xs dss->(∀ (j:Nat) (u:Value),dss.flatten[j]? =some u->look (k+j)=some u)->
 ∀ (i:Nat) (x:e.T),xs[i]? =some x->∃ d,jG σ e x d/\∀ (j:Nat) (u:Value),d[j]? =some u->look (k+i*e.size+j)=some u
 | x::xs,d::dss,k,h,hl,0,y,hy=>by
   simp at hy;subst hy;refine ⟨d,h.1,fun j u hu=> ?_⟩;have:=hl j u (by simp only [List.flatten_cons,List.getElem?_append];rw [if_pos (zK.1 hu).1];exact hu);simpa using this
 | x ::xs,d::dss,k,h,hl,i+1,y,hy=>by
   have hlen:=h.1.length
   obtain ⟨d',h1,h2⟩:=zDC (k:=k+e.size) h.2 (fun j u hu=>by
    have:=hl (e.size+j) u (by simp only [List.flatten_cons,List.getElem?_append];rw [if_neg (by omega),hlen,Nat.add_sub_cancel_left];exact hu)
    rw [<- this];congr 1;omega) i y (by simpa using hy)
   refine ⟨d',h1,fun j u hu=> ?_⟩;rw [<- h2 j u hu,Nat.succ_mul];congr 1;omega
 | [],_,_,_,_,_,_,hy=>by simp at hy
 | _::_,[],_,h,_,_,_,_=>h.elim
theorem Below.setRow {b:Nat} (w:World) (g:Nat) (cs:Array Value) (h:b<=g):Below b w (w.setRow g cs) :=
 ⟨⟨rfl,rfl,rfl,by simp,fun k hk=>setRow_other w g k cs (by omega)⟩,zI _⟩
theorem y5.one {a:AS} {v:Value} (h:y5 σ β a v) (hj:a≠.junk) (hu:v≠undef) (ht: ∀ u,a= .val u->u.oneCell'=true):v.oneCell'=true:=by
 cases a with
 | int=>rw [h.1];rfl
 | bool=>rw [show _=_ from h];rfl
 | val u=>rw [h.1];exact ht u rfl
 | sl=>obtain ⟨a,cap,e,_⟩:=h;rw [(List.cons.inj e).1];rfl
 | mp=>obtain ⟨r,e,_⟩:=h;rw [(List.cons.inj e).1];rfl
 | pt _ o=>cases o with
   | none=>rw [(List.cons.inj (show _=_ from h)).1];rfl
   | some z=>obtain ⟨_,_,_,e,_⟩:=h;rw [(List.cons.inj e).1];rfl
 | ip=>obtain ⟨_,_,_,rfl,_⟩:=h;rfl
 | ipi=>obtain ⟨_,_,_,rfl,_⟩:=h;rfl
 | own id s n =>
   simp only [y5] at h;split at h
   ·exact h.elim
   ·obtain ⟨rfl,_⟩:=h;rfl
   ·obtain ⟨_,_,rfl,_⟩:=h;rfl
 | ptr=>obtain ⟨_,_,rfl,_⟩:=h;rfl
 | pti=>obtain ⟨_,_,rfl,_⟩:=h;rfl
 | omp=>obtain ⟨_,_,rfl,_⟩:=h;rfl
 | arr=>obtain ⟨_,_,rfl,_⟩:=h;rfl
 | clo=>obtain ⟨_,rfl,_⟩:=h;rfl
 | nq=>obtain ⟨_,rfl,_⟩:=h;rfl
 | junk=>exact (hj rfl).elim
theorem zBa {c ds:List Value} {off k:Nat} (h:off+ds.length<=c.length) :
 (c.take off++ds++c.drop (off+ds.length))[k]? =if k<off then c[k]? else if k<off+ds.length then ds[k - off]? else c[k]? :=by
 simp only [List.getElem?_append,List.getElem?_take,List.getElem?_drop,zN,qZ]
 by_cases h1:k<off
 ·rw [if_pos (by omega),if_pos (by omega),if_pos h1,if_pos h1]
 ·by_cases h2:k<off+ds.length
  ·rw [if_pos (by omega),if_neg (by omega),if_neg h1,if_pos h2];congr 1;omega
  ·rw [if_neg (by omega),if_neg h1,if_neg h2];congr 1;omega
theorem zIY: ∀ {m:List AS} {ds:List Value},m.all AS.storable=true->jQ (y5 σ β) m ds->∀ u∈ds,u.oneCell'=true
 | [],[],_,_=>by simp
 | a ::m,d::ds,h,hr=>by
   simp only [List.all_cons,zC] at h;intro u hu;rcases zT.1 hu with rfl|hu
   ·have h1:=hr.1;cases a with
    | int=>rw [h1.1];rfl
    | bool=>rw [show _=_ from h1];rfl
    | val v =>
      obtain ⟨rfl,hs⟩:=h1;cases u<;>first|rfl|exact (hs _ rfl).elim|(simp [AS.storable] at h)
    | sl=>obtain ⟨a,cap,e,_⟩:=h1;rw [(List.cons.inj e).1];rfl
    | mp=>obtain ⟨r,e,_⟩:=h1;rw [(List.cons.inj e).1];rfl
    | pt _ o=>cases o with
      | none=>rw [(List.cons.inj (show _=_ from h1)).1];rfl
      | some z=>obtain ⟨_,_,_,e,_⟩:=h1;rw [(List.cons.inj e).1];rfl
    | ip=>obtain ⟨_,_,_,rfl,_⟩:=h1;rfl
    | ipi=>obtain ⟨_,_,_,rfl,_⟩:=h1;rfl
    | own id s n =>
      simp only [y5] at h1;split at h1
      ·exact h1.elim
      ·obtain ⟨rfl,_⟩:=h1;rfl
      ·obtain ⟨_,_,rfl,_⟩:=h1;rfl
    | ptr=>obtain ⟨_,_,rfl,_⟩:=h1;rfl
    | pti=>obtain ⟨_,_,rfl,_⟩:=h1;rfl
    | omp=>obtain ⟨_,_,rfl,_⟩:=h1;rfl
    | arr=>obtain ⟨_,_,rfl,_⟩:=h1;rfl
    | clo=>obtain ⟨_,rfl,_⟩:=h1;rfl
    | nq=>obtain ⟨_,rfl,_⟩:=h1;rfl
    | junk=>simp [AS.storable] at h
   ·exact zIY h.2 hr.2 u hu
 | [],_::_,_,hr=>hr.elim
 | _::_,[],_,hr=>hr.elim
theorem zCw (hT:zAA P T) {t:TypeId} {x v:Operand} (ho:o.op= .store t x v) {b off:Nat} {c:Array Value} {u:TypeId} (hb:w.heap[b]? =some (.cells c u (0,0)))
 (hx:ρ x= .pointer (some ⟨b,off,none⟩)) {ds:List Value} (hv:(ρ v).cells.toList=ds) (hs:ds.length=T.sizeOf t) (hpos:T.sizeOf t≠0) (hle:off+ds.length<=c.size) (h1: ∀ u∈ds,u.oneCell'=true) :
 (execOp ρ o).run P w= .ok .skip (w.setRow b (c.toList.take off++ds++c.toList.drop (off+ds.length)).toArray):=by
 have hst:=run_storeCells_at P b off u ds 0 c w hb (by simpa using hle) h1;simp only [Nat.add_zero] at hst;have hsz:(ρ v).cells.size=T.sizeOf t:=by rw [<- hs,<- hv];simp
 simp [execOp,ho,Instr.storeAt,Instr.sureAddr,hx,storeVar,zCx (w:=w) hT hpos,hsz,hv,hst]
theorem zBM {g:Nat} {old:Array Value} {u:TypeId} (cs:Array Value) (h:w.heap[g]? =some (.cells old u (0,0))):(w.setRow g cs).heap[g]? =some (.cells cs u (0,0)) :=
 setRow_heap w g old cs u (0,0) h
theorem zQA {e:ETy} {u:TypeId} {xs:List e.T} {id i:Nat} {p:Bk} (h:zAf σ β w id (.row e u xs)) (hp:β[id]? =some (some p)) (hi:i<p.L) {y:e.T} {ds:List Value} (hy:jG σ e y ds)
 {c:Array Value} (hc:w.heap[p.b]? =some (.cells c u (0,0))) :
 p.o+i*p.sz+ds.length<=c.size/\zAf σ β (w.setRow p.b (c.toList.take (p.o+i*p.sz)++ds++c.toList.drop (p.o+i*p.sz+ds.length)).toArray) id (.row e u (xs.set i y)):=by
 obtain ⟨h0,h⟩:=h;simp only [hp] at h;obtain ⟨q1,q2,q3,c',q4,q5,q6⟩:=h;rw [hc] at q4;cases q4;have hl:=hy.length;have hin:i*p.sz+p.sz<=p.L*p.sz:=by rw [<- Nat.succ_mul];exact Nat.mul_le_mul_right _ hi
 have hle:p.o+i*p.sz+ds.length<=c.size:=by omega
 refine ⟨hle,by simpa using h0,?_⟩;simp only [hp];refine ⟨q1,by simpa using q2,q3,_,zBM _ hc,?_,fun i' x hx=> ?_⟩
 ·simp;omega
 ·have hle':p.o+i*p.sz+ds.length<=c.toList.length:=by simpa using hle
  simp only [List.getElem?_toArray,zBa hle'];rw [List.getElem?_set] at hx
  by_cases hii:i=i'
  ·subst hii;simp only [if_true] at hx;split at hx
   ·cases hx;refine ⟨ds,hy,fun j v hj=> ?_⟩;have:=(zK.1 hj).1;rw [if_neg (by omega),if_pos (by omega),Nat.add_sub_cancel_left];exact hj
   ·cases hx
  ·rw [if_neg hii] at hx;obtain ⟨d,h1,h2⟩:=q6 i' x hx;refine ⟨d,h1,fun j v hj=> ?_⟩;have hj':=(zK.1 hj).1;have hdl:=h1.length
   have: ¬ (p.o+i*p.sz<=p.o+i'*p.sz+j/\p.o+i'*p.sz+j<p.o+i*p.sz+ds.length):=by
    rcases Nat.lt_or_gt_of_ne hii with hlt|hgt
    ·have:=Nat.mul_le_mul_right p.sz (show i+1<=i' from hlt);rw [Nat.succ_mul] at this;omega
    ·have:=Nat.mul_le_mul_right p.sz (show i'+1<=i from hgt);rw [Nat.succ_mul] at this;omega
   have h3:=h2 j v hj;rw [<- zM] at h3;split
   ·exact h3
   ·split
    ·omega
    ·exact h3
theorem zKG {e:ETy} {x y:e.T} {k:Nat} {a:AS} (h:e.setc x k a=some y) (hk:k<e.size) {d:List Value} (hd:jG σ e x d) {v:Value} (hv:y5 σ β a v):jG σ e y (d.set k v):=by
 unfold ETy.setc at h;split at h
 ·rename_i n;cases h;obtain ⟨rfl,h1,h2,h3⟩:=hd;obtain ⟨rfl,hn⟩:=hv;have:k=0\/k=1\/k=2:=by simp [ETy.size] at hk;omega
  rcases this with rfl|rfl|rfl<;>exact ⟨rfl,by simpa,by simpa,by simpa⟩
 ·rename_i n;cases h;obtain ⟨rfl,h1,h2⟩:=hd;obtain ⟨rfl,hn⟩:=hv;have:k=0\/k=1:=by simp [ETy.size] at hk;omega
  rcases this with rfl|rfl<;>exact ⟨rfl,by simpa,by simpa⟩
 ·cases h
theorem zGk {c d:List Value} {off k:Nat} {v:Value} (hd: ∀ (j:Nat) (u:Value),d[j]? =some u->c[off+j]? =some u) (hk:k<d.length) (hle:off+d.length<=c.length) :
 c.take (off+k)++[v]++c.drop (off+k+1)=c.take off++d.set k v++c.drop (off+(d.set k v).length):=by
 have h1:off+k+([v]:List Value).length<=c.length:=by simp;omega
 have h2:off+(d.set k v).length<=c.length:=by simpa using hle
 apply List.ext_getElem?;intro i;have e1:=zBa (k:=i) h1;have e2:=zBa (k:=i) h2;simp only [List.length_singleton] at e1;rw [e1,e2];simp only [List.length_set]
 by_cases a1:i<off
 ·rw [if_pos (by omega),if_pos a1]
 ·rw [if_neg a1]
  by_cases a2:i<off+d.length
  ·rw [if_pos a2,List.getElem?_set];obtain ⟨u,hu⟩:=zB6 (l:=d) (i:=i - off) (by omega);have:=hd _ _ hu;rw [show off+(i - off)=i by omega] at this
   by_cases a3:k=i - off
   ·rw [if_neg (by omega),if_pos (by omega),if_pos a3,if_pos (by omega)];rw [show i - (off+k)=0 by omega];rfl
   ·rw [if_neg a3]
    by_cases a4:i<off+k
    ·rw [if_pos a4,this,hu]
    ·rw [if_neg a4,if_neg (by omega),this,hu]
  ·rw [if_neg (by omega),if_neg (by omega),if_neg a2]
theorem zRx {u:TypeId} {cs cs':List AS} {id:Nat} {p:Bk} (h:zAf σ β w id (.flat u cs)) (hp:β[id]? =some (some p)) {c':Array Value} (hl:cs'.length=cs.length) (hc:jQ (y5 σ β) cs' c'.toList) :
 zAf σ β (w.setRow p.b c') id (.flat u cs'):=by
 obtain ⟨p2,h1,h2,h3,h4,h5,c,h6,h7⟩:=h;rw [hp] at h1;cases h1;exact ⟨p,hp,h2,by rw [hl];exact h3,h4,by rw [hl];exact h5,c',zBM _ h6,hc⟩
theorem zGy {k:Nat} {n:Int} (hn:InK .i64 n): ∀ {l:List AS} {ns:List Int} {ds:List Value} {j:Nat},zCZ l=some ns->jQ (y5 σ β) l ds->
 (zFU k n j ns).length=l.length/\jQ (y5 σ β) (zFU k n j ns) (if j<=k then ds.set (k - j) (.int .i64 n) else ds)
 | [],ns,ds,j,h,hr=>by cases h;obtain rfl:=hr.len_nil;simp [zFU,jQ]
 | .int .i64 m::r,ns,d::ds,j,h,hr=>by
   simp only [zCZ] at h;split at h
   ·rename_i l' hl';cases h;obtain ⟨h1,h2⟩:=zGy (k:=k) hn (j:=j+1) hl' hr.2;refine ⟨by simp [zFU,h1],?_⟩;simp only [zFU]
    by_cases hjk:k=j
    ·subst hjk;rw [if_neg (by omega)] at h2;rw [if_pos (zI _),Nat.sub_self,if_pos rfl];exact ⟨⟨rfl,hn⟩,h2⟩
    ·by_cases hle:j<=k
     ·rw [if_pos (by omega)] at h2;rw [if_pos hle,show k - j=(k - (j+1))+1 by omega];exact ⟨by rw [if_neg hjk];exact hr.1,h2⟩
     ·rw [if_neg (by omega)] at h2;rw [if_neg hle];exact ⟨by rw [if_neg hjk];exact hr.1,h2⟩
   ·contradiction
 | .int .i64 _::_,_,[],_,_,hr=>hr.elim
theorem zFy (hT:zAA P T) (h:GG B σ β st tmps w) (hd:zBE o.dst tmps) {t:TypeId} {x y:Operand} (ho:o.op= .store t x y) {a b:AV} (ha:y6 σ β a (ρ x)) (hb:y6 σ β b (ρ y))
 {p q:Option Prop} {st':St} (he:zBz T t a b st o.dst=some (p,q,st')):Opt p/\(Opt q->zZ8 P B β o ρ st' tmps w):=by
 -- what is left once the new thing is known
 have fin: ∀ {id:Nat} {ob ob':Ob} {pl:Bk} {c':Array Value},hget st.hp id=some ob->β[id]? =some (some pl)->(execOp ρ o).run P w= .ok .skip (w.setRow pl.b c')->zAf σ β (w.setRow pl.b c') id ob'->
  zZ8 P B β o ρ (({st with hp:=zA6 st.hp id ob'} :St).put o.dst .undef) tmps w:=by
  intro id ob ob' pl c' hid hpl hrun hob;have hsep:=h.sep _ _ _ hid hpl;exact ⟨undef,_,σ,.inr ⟨hrun,rfl⟩,(h.turn hid hpl (fun k hk=>setRow_other w pl.b k c' hk) (Below.setRow w _ _ hsep.2.1) hob).put hd y6.undef⟩
 unfold zBz at he;split at he
 ·rename_i id i k m hm;obtain ⟨pl,hpl,hx,hi⟩:=ha;have hfl:=zBC hb hm;have hml:=hfl.length;split at he
  ·rename_i e u xs hlen hst hid;rw [zC,Bool.not_eq_true'] at hlen;have hz:T.sizeOf t≠0:=by intro e;rw [e] at hlen;cases hlen.2
   have hlen:=zH hlen.1;have hob:=h.mem.ob _ _ hid;have hob':=hob.2;simp only [hpl] at hob';obtain ⟨q1,q2,q3,c,q4,q5,q6⟩:=hob';have hone:=zIY hst hfl;split at he
   ·rename_i hk he2;obtain rfl:=zH hk;have he2:=zH he2;split at he
    ·rename_i yv hdec;cases he;refine ⟨trivial,fun _=> ?_⟩;have hy:=ETy.dec_sound hdec hfl;obtain ⟨r1,r2⟩:=zQA hob hpl hi hy q4;exact fin hid hpl (zCw hT ho q4 hx rfl (by rw [<- hml];exact hlen) hz (by simpa using r1) hone) (by simpa using r2)
    ·cases he
   ·split at he
    ·rename_i a1 _ _;split at he
     ·rename_i yv hkb zA6;cases he;refine ⟨trivial,fun _=> ?_⟩;have hk:k+1<=e.size:=by simpa [Nat.blt] using hkb
      obtain ⟨v1,hv1,hv2⟩:=hfl.len_one;obtain ⟨x1,hx1⟩:=zB6 (l:=xs) (q2▸hi);obtain ⟨d,hd1,hd2⟩:=q6 _ _ hx1;rw [zEI hx1] at zA6;have hy:=zKG zA6 hk hd1 hv2;have hdl:=hd1.length;obtain ⟨r1,r2⟩:=zQA hob hpl hi hy q4;have hspl:=zGk (c:=c.toList) (d:=d) (off:=pl.o+i*pl.sz) (k:=k) (v:=v1) (fun j u hj=>by rw [zM];exact hd2 j u hj) (by omega) (by simp at r1 ⊢;omega);rw [<- hspl] at r2;have hs1:(1:Nat)=T.sizeOf t:=by simpa using hlen
      refine fin hid hpl (zCw hT ho q4 hx hv1 (by simpa using hs1) (by omega) (by simp at r1 ⊢;omega) (by rw [<- hv1];exact hone)) r2
     ·cases he
    ·cases he
  ·rename_i u cs hlen hst hid;rw [zC,Bool.not_eq_true'] at hlen;have hz:T.sizeOf t≠0:=by intro e;rw [e] at hlen;cases hlen.2
   have hlen:=zH hlen.1;have hob:=h.mem.ob _ _ hid;obtain ⟨p2,g1,g2,g3,g4,g5,c,g6,g7⟩:=hob;rw [hpl] at g1;cases g1;have hone:=zIY hst hfl;split at he
   ·rename_i hle;cases he;refine ⟨trivial,fun _=> ?_⟩;have hle:=zU hle;have hcl:=g7.length;simp only [g2,Nat.zero_mul,zD] at hx;refine fin hid hpl (zCw hT ho g6 hx rfl (by rw [<- hml];exact hlen) hz (by rw [<- hml];simp at hcl;omega) hone) (zRx (h.mem.ob _ _ hid) hpl ?_ ?_)
    ·unfold zAZ;simp;omega
    ·unfold zAZ;rw [hml];exact ((g7.take _).append hfl).append (g7.drop _)
   ·cases he
  ·cases he
 ·rename_i id i j a1 hm;obtain ⟨pl,hpl,hx,hi,hj⟩:=ha;have hfl:=zBC hb hm;obtain ⟨v1,hv1,hv2⟩:=hfl.len_one;split at he
  ·rename_i e u xs hs1 hst hid;have hs1:=zH hs1;have hob:=h.mem.ob _ _ hid;have hob':=hob.2;simp only [hpl] at hob';obtain ⟨q1,q2,q3,c,q4,q5,q6⟩:=hob';have hone:=zIY (m:=[a1]) (by simpa using hst) hfl;split at he
   ·rename_i yv zA6;cases he;refine ⟨trivial,fun _=> ?_⟩;obtain ⟨x1,hx1⟩:=zB6 (l:=xs) (q2▸hi);obtain ⟨d,hd1,hd2⟩:=q6 _ _ hx1;rw [zEI hx1] at zA6;have hy:=zKG zA6 (by omega) hd1 hv2;have hdl:=hd1.length;obtain ⟨r1,r2⟩:=zQA hob hpl hi hy q4;have hspl:=zGk (c:=c.toList) (d:=d) (off:=pl.o+i*pl.sz) (k:=j) (v:=v1) (fun j u hj=>by rw [zM];exact hd2 j u hj) (by omega) (by simp at r1 ⊢;omega);rw [<- hspl] at r2
    refine fin hid hpl (zCw hT ho q4 hx hv1 (by simpa using hs1) (by omega) (by simp at r1 ⊢;omega) (by rw [<- hv1];exact hone)) r2
   ·cases he
  ·rename_i u cs hs1 hst hid;have hs1:=zH hs1;obtain ⟨p2,g1,g2,g3,g4,g5,c,g6,g7⟩:=h.mem.ob _ _ hid;rw [hpl] at g1;cases g1;have hone:=zIY (m:=[a1]) (by simpa using hst) hfl;split at he
   ·rename_i cs' hfs;cases he;refine ⟨trivial,fun _=> ?_⟩;unfold zNM at hfs;split at hfs
    ·rename_i n ns hns;cases hfs;obtain ⟨rfl,hn⟩:=hv2;obtain ⟨s1,s2⟩:=zGy (k:=j) hn (j:=0) hns g7;rw [if_pos (Nat.zero_le _),Nat.sub_zero] at s2;have hcl:=g7.length;simp only [g2,Nat.zero_mul,zD] at hx;refine fin hid hpl (zCw hT ho g6 hx hv1 (by simpa using hs1) (by omega) (by simp at hcl ⊢;omega) (by rw [<- hv1];exact hone)) (zRx (h.mem.ob _ _ hid) hpl s1 ?_);have:=zGk (c:=c.toList) (d:=c.toList) (off:=0) (k:=j) (v:= .int .i64 n) (fun _ _ hh=>by simpa using hh) (by omega) (by simp)
     simp only [List.take_zero,List.nil_append,zD,List.length_set,List.drop_length,List.append_nil] at this;simp only [List.length_singleton];rw [this];exact s2
    ·cases hfs
   ·cases he
  ·cases he
 ·cases he
def zGz (T:Tab):Prop:= ∀ t ti,zFP T.ty t=some ti->∀ e,ti.ety=some e->ti.zl=e.zeroVals/\ti.size=e.size
theorem zNA (hT:zAA P T) (h:GG B σ β st tmps w) (hd:zBE o.dst tmps) {t:TypeId} {x y:Operand} (ho:o.op= .store t x y) {a b:AV} (ha:y6 σ β a (ρ x)) (hb:y6 σ β b (ρ y))
 {p q:Option Prop} {st':St} (he:zBz T t a b st o.dst=some (p,q,st')):Opt p/\(Opt q->zLi P B o ρ st' tmps w) :=
 let ⟨h1,h2⟩:=zFy hT h hd ho ha hb he;⟨h1,fun hq=>(h2 hq).done⟩
theorem zBI: ∀ e:ETy,jG σ e e.dflt e.zeroVals
 | .int k=>⟨rfl,by cases k<;>rfl⟩
 | .bool=>rfl
 | .arr2=>⟨rfl,rfl,rfl⟩
 | .arr3=>⟨rfl,rfl,rfl,rfl⟩
 | .pair a b=>⟨_,_,rfl,zBI a,zBI b⟩
 | .sl _=>⟨none,0,rfl,by simp [ETy.dflt],by simp [ETy.dflt],fun h=>(h rfl).elim⟩
 | .mp _ _=>⟨none,rfl,by simp [ETy.dflt],fun _=>rfl,fun _ h=>by cases h⟩
 | .pt _=>rfl
 | .unit=>rfl
 | .fnc=>rfl
def RowsIn (σ:Sig) (e:ETy) (xs:List e.T) (c:List Value) (o:Nat):Prop :=
 ∀ (i:Nat) (x:e.T),xs[i]? =some x->∃ d,jG σ e x d/\∀ (j:Nat) (u:Value),d[j]? =some u->c[o+i*e.size+j]? =some u
theorem zQG {e:ETy} {xs:List e.T} {c ds:List Value} {o i:Nat} {y:e.T} (h:RowsIn σ e xs c o) (hi:i<xs.length) (hle:o+xs.length*e.size<=c.length) (hy:jG σ e y ds) :
 RowsIn σ e (xs.set i y) (c.take (o+i*e.size)++ds++c.drop (o+i*e.size+ds.length)) o:=by
 have hl:=hy.length;have hin:i*e.size+e.size<=xs.length*e.size:=by rw [<- Nat.succ_mul];exact Nat.mul_le_mul_right _ hi
 have hle':o+i*e.size+ds.length<=c.length:=by omega
 intro i' x hx;rw [List.getElem?_set] at hx;simp only [zBa hle']
 by_cases hii:i=i'
 ·subst hii;rw [if_pos rfl,if_pos hi] at hx;cases hx;refine ⟨ds,hy,fun j v hj=> ?_⟩;have:=(zK.1 hj).1;rw [if_neg (by omega),if_pos (by omega),Nat.add_sub_cancel_left];exact hj
 ·rw [if_neg hii] at hx;obtain ⟨d,h1,h2⟩:=h i' x hx;refine ⟨d,h1,fun j v hj=> ?_⟩;have hj':=(zK.1 hj).1;have hdl:=h1.length
  have: ¬ (o+i*e.size<=o+i'*e.size+j/\o+i'*e.size+j<o+i*e.size+ds.length):=by
   rcases Nat.lt_or_gt_of_ne hii with hlt|hgt
   ·have:=Nat.mul_le_mul_right e.size (show i+1<=i' from hlt);rw [Nat.succ_mul] at this;omega
   ·have:=Nat.mul_le_mul_right e.size (show i'+1<=i from hgt);rw [Nat.succ_mul] at this;omega
  have h3:=h2 j v hj;split
  ·exact h3
  ·split
   ·omega
   ·exact h3
theorem zJR {e:ETy} {zl:List Value} (hz:zl=e.zeroVals) (n:Nat):RowsIn σ e (List.replicate n e.dflt) ((Array.range (n*e.size)).map (fun k=>zl.toArray[k % zl.toArray.size]!)).toList 0:=by
 intro i x hx;have hi:=(zK.1 hx).1;simp only [List.length_replicate] at hi;rw [List.getElem?_replicate,if_pos hi] at hx;cases hx;have hr:=zBI (σ:=σ) e;have hl:=hr.length;refine ⟨_,hr,fun j u hj=> ?_⟩;have hj':=(zK.1 hj).1
 have hlt:i*e.size+j<n*e.size:=by
  have:=Nat.mul_le_mul_right e.size (show i+1<=n from hi);rw [Nat.succ_mul] at this;omega
 simp only [zD,zM,Array.getElem?_map,Array.getElem?_range];rw [if_pos hlt];simp only [Option.map_some,Option.some.injEq];have hsz:zl.toArray.size=e.size:=by rw [hz];simpa using hl
 rw [hsz,show (i*e.size+j) % e.size=j by rw [Nat.mul_comm,Nat.mul_add_mod];exact Nat.mod_eq_of_lt (by omega)];have:zl.toArray[j]? =some u:=by rw [hz];simpa using hj
 rw [getElem!_def,this]
theorem zOY {e:ETy} : ∀ {ps:List (Nat×AV)} {vs:List (Nat×Value)} {xs ys:List e.T} {c:List Value},zE8 e xs ps=some ys->
 jQ (fun (p:Nat×AV) (q:Nat×Value)=>p.1=q.1/\y6 σ β p.2 q.2) ps vs->RowsIn σ e xs c 0->xs.length*e.size=c.length->
 ∃ c',Instr.fill (fun i=>some (i*e.size,e.size)) c.toArray vs=some c'.toArray/\RowsIn σ e ys c' 0/\c'.length=c.length/\ys.length=xs.length
 | [],[],xs,ys,c,h,_,hr,hl=>by cases h;exact ⟨c,rfl,hr,rfl,rfl⟩
 | (i, v)::ps,(j,u)::vs,xs,ys,c,h,hv,hr,hl=>by
   obtain ⟨⟨rfl,hu⟩,hv⟩:=hv;simp only [zE8] at h;split at h
   ·rename_i m hm;split at h
    ·rename_i x hx hb;have hb:i+1<=xs.length:=by simpa [Nat.blt] using hb
     have hf:=zBC hu hm;have hd:=ETy.dec_sound hx hf;have hdl:=hd.length;have hin:i*e.size+e.size<=xs.length*e.size:=by rw [<- Nat.succ_mul];exact Nat.mul_le_mul_right _ hb
     have hr':=zQG hr hb (by omega) hd;simp only [zD] at hr'
     have hlen:(c.take (i*e.size)++u.cells.toList++c.drop (i*e.size+u.cells.toList.length)).length=c.length:=by
      simp;simp at hdl;omega
     obtain ⟨c',h1,h2,h3,h4⟩:=zOY h hv hr' (by rw [hlen];simpa using hl);refine ⟨c',?_,h2,by omega,by simpa using h4⟩;simp only [Instr.fill];rw [if_neg (by simp at hdl;simp [hdl];omega)];rw [<- h1]
     congr 1
     apply Array.ext';have:=foldl_set (i*e.size) u.cells.toList 0 c (by simp at hdl ⊢;omega)
     rw [show (u.cells.zipIdx.foldl (fun cs x=>cs.setIfInBounds (i*e.size+x.2) x.1) c.toArray)=((u.cells.toList.zipIdx 0).foldl (fun (cs:Array Value) (p:Value×Nat)=>cs.setIfInBounds (i*e.size+p.2) p.1) c.toArray) by
      rw [<- Array.foldl_toList];simp]
     rw [this];simp
    ·cases h
   ·cases h
 | [],_::_,_,_,_,_,h,_,_=>h.elim
 | _::_,[],_,_,_,_,h,_,_=>h.elim
theorem zOp (h:GG B σ β st tmps w) (hd:zBE o.dst tmps) {e:ETy} {u:TypeId} {xs:List e.T} {n cap:Nat} {c:Array Value} (hn:n=xs.length) (hcap:n<=cap) (hb:xs.length<=140737488355328)
 (hc:RowsIn σ e xs c.toList 0) (hs:c.size=cap*e.size)
 (hrun:(execOp ρ o).run P w= .ok (.value (.slice (some ⟨w.heap.size,0,none⟩) n cap)) (w.alloc (.cells c u))):zLi P B o ρ (zGE st o.dst e u xs n) tmps w:=by
 subst hn;have hl:(β++[some ⟨w.heap.size,0,e.size,cap*e.size,xs.length⟩])[st.next]? =some (some ⟨w.heap.size,0,e.size,cap*e.size,xs.length⟩):=by rw [<- h.len];simp
 refine ⟨_,_,σ,_,.inl hrun,h.fresh (q:=some ⟨w.heap.size,0,e.size,cap*e.size,xs.length⟩) hd (alloc_old w _) (Below.alloc' w _ h.bel.size) (by rintro p ⟨⟩;rfl) ?_ ?_⟩
 ·refine ⟨hb,?_⟩;simp only [hl];refine ⟨by trivial,by trivial,by rw [zD];exact Nat.mul_le_mul_right _ hcap,c,Go.heap_alloc_new w _,hs,fun i x hx=> ?_⟩;obtain ⟨d,h1,h2⟩:=hc i x hx;exact ⟨d,h1,fun j v hj=>by rw [<- zM];exact h2 j v hj⟩
 ·show y5 σ _ (.own st.next 0 xs.length) _;simp only [y5,hl];exact ⟨_,cap,rfl,hcap,.inr (by simp),by simp,by simp⟩
theorem zSc (h:GG B σ β st tmps w) (hd:zBE o.dst tmps) {e:ETy} {u:TypeId} {n cap:Nat} {c:Array Value} (hcap:n<=cap) (hb:n<=140737488355328)
 (hc: ∀ v∈c.toList,v= .slice none 0 0) (hs:c.size=cap)
 (hrun:(execOp ρ o).run P w= .ok (.value (.slice (some ⟨w.heap.size,0,none⟩) n cap)) (w.alloc (.cells c u))):zLi P B o ρ (zNr st o.dst e u (List.replicate n []) n) tmps w:=by
 have hl:(β++[some ⟨w.heap.size,0,1,cap,n⟩])[st.next]? =some (some ⟨w.heap.size,0,1,cap,n⟩):=by rw [<- h.len];simp
 refine ⟨_,_,σ,_,.inl hrun,h.fresh (q:=some ⟨w.heap.size,0,1,cap,n⟩) hd (alloc_old w _) (Below.alloc' w _ h.bel.size) (by rintro p ⟨⟩;rfl) ?_ ?_⟩
 ·refine ⟨by simpa using hb,_,hl,rfl,by simp,by simpa using hcap,c,Go.heap_alloc_new w _,hs,fun i x hx=> ?_,fun v hv=> .inl (hc v ?_),?_⟩
  ·have hi:=(zK.1 hx).1;simp only [List.length_replicate] at hi;rw [List.getElem?_replicate,if_pos hi] at hx;cases hx;have hlt:i<c.size:=by omega
   refine ⟨.slice none 0 0,⟨none,0,rfl,by simp,by simp,fun h=>(h rfl).elim⟩,?_⟩;rw [zD,<- zM,zG (by simpa using hlt),hc _ (yQ _)]
  ·exact List.mem_of_mem_drop (List.mem_of_mem_take hv)
  ·refine List.Pairwise.imp_of_mem (R:=fun _ _=>True) ?_ (List.pairwise_of_forall fun _ _=>trivial);intro v v' hv _ _ b o' n' c' b2 o2 n2 c2 e1;rw [hc v (List.mem_of_mem_drop (List.mem_of_mem_take hv))] at e1;cases e1
 ·show y5 σ _ (.own st.next 0 n) _;simp only [y5,hl];exact ⟨_,cap,rfl,hcap,.inr (by simp),by simp,by simp⟩
theorem zCu (hT:zAA P T) (hE:zGz T) {t u:TypeId} {n:Nat} {vs:Array (Nat×Value)} {ps:List (Nat×AV)} (hv:jQ (fun (p:Nat×AV) (q:Nat×Value)=>p.1=q.1/\y6 σ β p.2 q.2) ps vs.toList)
 {ui:TI} {e:ETy} {xs:List e.T} (hdc:T.desc t= .slice u) (hui:T.info u=some ui) (hety:ui.ety=some e) (hdec:zE8 e (List.replicate n e.dflt) ps=some xs) (hble:Nat.ble (n*ui.size) 16777216=true) (hsz:Nat.beq ui.size 0=false) :
 ∃ c:Array Value,(Instr.buildSlice t n vs).run P w= .ok (.slice (some ⟨w.heap.size,0,none⟩) n n) (w.alloc (.cells c u))/\RowsIn σ e xs c.toList 0/\c.size=n*e.size/\xs.length=n/\n<=16777216:=by
 obtain ⟨hz,hs⟩:=hE _ _ hui _ hety;have hble:=zU hble;have hsz':ui.size≠0:=by intro e;rw [e] at hsz;cases hsz
 obtain ⟨i,z,hi,hsi,hb,hzz,hzl⟩:=(hT _ _ hui).get;obtain ⟨c',h1,h2,h3,h4⟩:=zOY hdec hv (zJR (σ:=σ) hz n) (by simp);simp only [List.length_replicate,Array.length_toList,Array.size_map,Array.size_range] at h3 h4;have hnn:n<=16777216:=Nat.le_trans (Nat.le_mul_of_pos_right n (by omega)) hble;have hzs:z.cells=ui.zl.toArray:=by rw [<- hzl]
 refine ⟨c'.toArray,?_,by simpa using h2,by simpa using h3,h4,hnn⟩;unfold Instr.buildSlice;rw [Sem.run_bind,hT.desc hdc (by simp),Result.andThen_ok];have hle: ¬ (n*i.size>2 ^ 24):=by rw [hsi];omega
 simp only [Sem.run_bind,(hT _ _ hui).run_sizeOf,Result.andThen_ok];rw [hsi] at hle;rw [if_neg hle];rw [<- hs] at h1
 by_cases h0:n*ui.size=0
 ·rw [if_pos h0]
  have h1':Instr.fill (fun i=>some (i*ui.size,ui.size)) ((Array.range (n*ui.size)).map (fun k=>(#[]:Array Value)[k % (#[]:Array Value).size]!)) vs.toList=some c'.toArray:=by
   rw [<- h1,h0,show Array.range 0= #[] from rfl];simp
  simp only [Sem.run_pure,Result.andThen_ok,h1',Sem.run_bind,newRow,run_newObj];rfl
 ·rw [if_neg h0];have hzr:(zeroValue u).run P w= .ok z w:=by simp [zeroValue,typeInfo,hi,hzz]
  have h1':Instr.fill (fun i=>some (i*ui.size,ui.size)) ((Array.range (n*ui.size)).map (fun k=>z.cells[k % z.cells.size]!)) vs.toList=some c'.toArray:=by
   rw [<- h1,hzs]
  simp only [Sem.run_bind,hzr,Sem.run_pure,Result.andThen_ok,h1',newRow,run_newObj];rfl
theorem zGp (hT:zAA P T) (hE:zGz T) (h:GG B σ β st tmps w) (hd:zBE o.dst tmps) {t:TypeId} {n:Nat} {parts:Array (Nat×Operand)} (ho:o.op= .buildSlice t n parts) {ps:List (Nat×AV)}
 (hv:jQ (fun (p:Nat×AV) (q:Nat×Value)=>p.1=q.1/\y6 σ β p.2 q.2) ps (parts.map fun (i,x)=>(i,ρ x)).toList)
 {p q:Option Prop} {st':St} (he:zCY T t n ps st o.dst=some (p,q,st')):Opt p/\(Opt q->zLi P B o ρ st' tmps w):=by
 unfold zCY at he;split at he
 ·rename_i u hdc;split at he
  ·rename_i ui hui;split at he
   ·rename_i e hety;split at he
    ·rename_i xs hdec hble hsz;cases he;refine ⟨trivial,fun _=> ?_⟩;obtain ⟨c,hrun,h2,h3,h4,hnn⟩:=zCu (w:=w) hT hE hv hdc hui hety hdec hble hsz;refine zOp (n:=n) (cap:=n) (c:=c) h hd h4.symm (zI _) (by omega) h2 h3 ?_;simp [execOp,ho,hrun]
    ·cases he
   ·cases he
  ·cases he
 ·cases he
theorem zJt (h:GG B σ β st tmps w) {e:ETy} {u:TypeId} {xs:List e.T} {c:Array Value} (hb:xs.length<=140737488355328) (hc:RowsIn σ e xs c.toList 0) :
 ∃ σ',GG B σ' β st tmps (w.alloc (.cells c u))/\y5 σ' β (.sl e xs) (.slice (some ⟨w.heap.size,0,none⟩) xs.length xs.length):=by
 have hle:σ.le (fun b=>if b=w.heap.size then some (.cells c u) else σ b):=by
  intro b o e;have:=h.mem.ag.lt e;show ∃ o',(if b=w.heap.size then _ else _)=some o'/\_;rw [if_neg (by omega)];exact ⟨o,e,.refl⟩
 refine ⟨fun b=>if b=w.heap.size then some (.cells c u) else σ b,⟨⟨fun b o e=> ?_,fun id ob hi=> ?_⟩,fun t=>(h.env t).mono hle,h.len,fun id ob p hi hp=> ?_,h.bel.trans (Below.alloc' w _ h.bel.size),h.grew.1.trans hle,fun b hlt=> ?_⟩,?_⟩
 ·replace e:(if b=w.heap.size then some (Obj.cells c u) else σ b)=some o:=e;split at e
  ·rename_i hb;subst hb;cases e;exact ⟨_,Go.heap_alloc_new w _,.refl⟩
  ·have:=h.mem.ag.lt e;rw [alloc_old w _ _ this];exact h.mem.ag _ _ e
 ·have hob:=h.mem.ob _ _ hi
  exact (hob.same (fun p hp=>alloc_old w _ _ (hob.lt hp)) fun b o e=>alloc_old w _ _ (h.mem.ag.lt e)).sig hle fun b o e=>by
   have:=h.mem.ag.lt e;show (if b=w.heap.size then _ else _)=some o;rw [if_neg (by omega)];exact e
 ·obtain ⟨s1,s2,s3⟩:=h.sep _ _ _ hi hp;have:=(h.mem.ob _ _ hi).lt hp;exact ⟨by show (if p.b=w.heap.size then _ else _)=none;rw [if_neg (by omega)];exact s1,s2,s3⟩
 ·have:=h.bel.size;show (if b=w.heap.size then _ else _)=_;rw [if_neg (by omega)];exact h.grew.2 b hlt
 ·refine ⟨_,_,rfl,hb,zI _,fun _=>⟨w.heap.size,0,rfl,fun i x hx=> ?_⟩⟩;obtain ⟨d,h1,h2⟩:=hc i x hx;exact ⟨d,h1.mono hle,c,u,(0,0),by simp,fun j v hj=>by rw [<- zM];exact h2 j v hj⟩
theorem zH0 (hT:zAA P T) (hE:zGz T) (h:GG B σ β st tmps w) (hd:zBE o.dst tmps) {t:TypeId} {l c:Operand} (ho:o.op= .makeSlice t l c) {a b:AV} (ha:y6 σ β a (ρ l)) (hb:y6 σ β b (ρ c))
 {p q:Option Prop} {st':St} (he:zDF T t a b st o.dst=some (p,q,st')):Opt p/\(Opt q->zLi P B o ρ st' tmps w):=by
 unfold zDF at he;split at he
 ·rename_i u n cc hdc;split at he
  ·rename_i ui hui;split at he
   ·rename_i e hety;split at he
    ·rename_i hbz;cases he;refine ⟨trivial,fun ⟨h0,h1,h2⟩=> ?_⟩;obtain ⟨hz,hs⟩:=hE _ _ hui _ hety;obtain ⟨i,z,hi,hsi,hbi,hzz,hzl⟩:=(hT _ _ hui).get;obtain ⟨e1,_⟩:=ha;obtain ⟨e2,hk2⟩:=hb;have hbne:ui.bytes≠0:=by intro e;rw [e] at hbz;cases hbz
     have hcb:cc<=140737488355328:=by
      have:cc*1<=cc*(ui.bytes:Int):=Int.mul_le_mul_of_nonneg_left (by omega) (by omega);omega
     have hzs:z.cells=ui.zl.toArray:=by rw [<- hzl]
     have hrun:=run_make (P:=P) w t u i z (hT.und hdc (by simp)) hi hzz .i64 .i64 n cc h0 h1 (by rw [hbi,Int.mul_comm];omega) (by omega);have hs1:ui.size=1:=hs;refine zSc (n:=n.toNat) (cap:=cc.toNat) (c:=madeCells z.cells (cc.toNat*i.size)) h hd (by omega) (by omega) ?_ (by rw [size_madeCells,hsi,hs1,Nat.mul_one]) (by simp [execOp,ho,e1,e2,hrun]);intro v hv;rw [hzs,hz] at hv;simp only [madeCells,Array.toList_map,yC] at hv
     obtain ⟨k,_,rfl⟩:=hv;simp [ETy.zeroVals,Nat.mod_one]
    ·cases he
   ·rename_i e hno hety;split at he
    ·rename_i hbz;cases he;refine ⟨trivial,fun ⟨h0,h1,h2⟩=> ?_⟩;obtain ⟨hz,hs⟩:=hE _ _ hui _ hety;obtain ⟨i,z,hi,hsi,hbi,hzz,hzl⟩:=(hT _ _ hui).get;obtain ⟨e1,_⟩:=ha;obtain ⟨e2,hk2⟩:=hb;have hbne:ui.bytes≠0:=by intro e;rw [e] at hbz;cases hbz
     have hcb:cc<=140737488355328:=by
      have:cc*1<=cc*(ui.bytes:Int):=Int.mul_le_mul_of_nonneg_left (by omega) (by omega);omega
     have hzs:z.cells=ui.zl.toArray:=by rw [<- hzl]
     have hrun:=run_make (P:=P) w t u i z (hT.und hdc (by simp)) hi hzz .i64 .i64 n cc h0 h1 (by rw [hbi,Int.mul_comm];omega) (by omega);refine zOp (n:=n.toNat) (cap:=cc.toNat) (c:=madeCells z.cells (cc.toNat*i.size)) h hd (by simp) (by omega) (by simp;omega) ?_ (by rw [size_madeCells,hsi,hs]) (by simp [execOp,ho,e1,e2,hrun]);have hr:=zJR (σ:=σ) hz cc.toNat;rw [<- hs,<- hsi,<- hzs] at hr;intro i' x hx;have hi':=(zK.1 hx).1
     simp at hi'
     have hx':(List.replicate cc.toNat e.dflt)[i']? =some x:=by
      rw [List.getElem?_replicate,if_pos (by omega)] at hx ⊢;exact hx
     exact hr i' x hx'
    ·cases he
   ·cases he
  ·cases he
 ·cases he
end
end Go.Vm
