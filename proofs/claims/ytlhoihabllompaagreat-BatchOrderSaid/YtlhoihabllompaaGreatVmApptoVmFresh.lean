/- A part of the proofs of the laws. -/
import Derived.Test.YtlhoihabllompaaGreatVmOps5toVmEff
import Derived.CallsIn
import Derived.OrdersIn
import Derived.DeepKeys3
import Derived.MapKept
set_option linter.unusedSimpArgs false
set_option linter.unusedVariables false
set_option maxHeartbeats 8000000
set_option maxRecDepth 100000
/- Appending to what the function owns. -/
namespace Go.Vm
open Go.RowKit
section
variable {P:Program} {B:Base} {w:World} {σ:Sig} {β:yR} {st:St} {tmps:Array Value} {T:Tab} {o:Oper} {ρ:Operand->Value}
theorem y5.kill {id:Nat} {q:Option Bk} {a:AS} {v:Value} (h:y5 σ β a v):y5 σ (β.set id q) (Vm.kill id a) v:=by
 have key: ∀ {i:Nat},Nat.beq i id=false->(β.set id q)[i]? =β[i]? :=fun {i} hi=>by
  rw [List.getElem?_set_ne];rintro rfl;simp [Nat.beq_refl] at hi
 cases a with
 | own i s n =>
   simp only [Vm.kill];split
   ·trivial
   ·rename_i hi;simp only [y5,key hi];exact h
 | ptr i j k =>
   simp only [Vm.kill];split
   ·trivial
   ·rename_i hi;obtain ⟨p,h1,h2⟩:=h;exact ⟨p,by rw [key hi];exact h1,h2⟩
 | pti i j k =>
   simp only [Vm.kill];split
   ·trivial
   ·rename_i hi;obtain ⟨p,h1,h2⟩:=h;exact ⟨p,by rw [key hi];exact h1,h2⟩
 | omp i =>
   simp only [Vm.kill];split
   ·trivial
   ·rename_i hi;obtain ⟨p,h1,h2⟩:=h;exact ⟨p,by rw [key hi];exact h1,h2⟩
 | arr i n =>
   simp only [Vm.kill];split
   ·trivial
   ·rename_i hi;obtain ⟨p,h1,h2⟩:=h;exact ⟨p,by rw [key hi];exact h1,h2⟩
 | _=>exact h
theorem y6.map1 {τ:Sig} {γ:yR} {f:AS->AS} (hf: ∀ a v,y5 σ β a v->y5 τ γ (f a) v) {a:AV} {v:Value} (h:y6 σ β a v):y6 τ γ (a.map1 f) v:=by
 cases a with
 | s a=>exact hf _ _ h
 | agg l=>obtain ⟨ds,e,r⟩:=h;exact ⟨ds,e,r.map f hf⟩
 | tup l=>trivial
theorem jH.map1 {τ:Sig} {γ:yR} {f:AS->AS} (hf: ∀ a v,y5 σ β a v->y5 τ γ (f a) v): ∀ {l:List AV} {m:List Value},jH σ β l m->jH τ γ (l.map (AV.map1 f)) m
 | [],[],_=>trivial
 | _::_,_::_,h=>⟨y6.map1 hf h.1,jH.map1 hf h.2⟩
 | [],_::_,h=>h.elim
 | _::_,[],h=>h.elim
theorem y6.mapAS {τ:Sig} {γ:yR} {f:AS->AS} (hf: ∀ a v,y5 σ β a v->y5 τ γ (f a) v) {a:AV} {v:Value} (h:y6 σ β a v):y6 τ γ (a.mapAS f) v:=by
 cases a with
 | s a=>exact hf _ _ h
 | agg l=>obtain ⟨ds,e,r⟩:=h;exact ⟨ds,e,r.map f hf⟩
 | tup l=>obtain ⟨vs,e,r⟩:=h;exact ⟨vs,e,r.map1 hf⟩
theorem j7 (f:AS->AS) (hj:f .junk= .junk): ∀ (env:Env) (t:Nat),yZ (env.mapAS f) t=(yZ env t).mapAS f
 | [],t=>by simp [Env.mapAS,yZ,AV.mapAS,hj]
 | (k,v)::r,t=>by
   simp only [Env.mapAS,qR];split
   ·rfl
   ·exact j7 f hj r t
theorem zA5 (f:AS->AS): ∀ (hp:jJ) (i:Nat),hget (hp.mapAS f) i=(hget hp i).map (Ob.mapAS f)
 | [],i=>rfl
 | (k,v)::r,i=>by
   simp only [jJ.mapAS,yL];split
   ·rfl
   ·exact zA5 f r i
theorem zAR {l:jJ} {id i:Nat} {ob':Ob} (hx: ∃ o,hget l id=some o):hget (zA6 l id ob') i=if i=id then some ob' else hget l i:=by
 induction l with
 | nil=>obtain ⟨o,e⟩:=hx;cases e
 | cons x r ih =>
   obtain ⟨k,v⟩:=x;obtain ⟨o,e⟩:=hx;simp only [zA6];cases hk:Nat.beq k id with
   | true =>
     have:=zH hk;subst this;simp only [yL]
     by_cases e:i=k
     ·subst e;simp
     ·rw [if_neg (Ne.symm e),if_neg (Ne.symm e),if_neg e]
   | false =>
     have hne:k≠id:=by intro e;subst e;simp [Nat.beq_refl] at hk
     simp only [yL] at e ⊢;rw [if_neg hne] at e;rw [ih ⟨o,e⟩]
     by_cases e1:k=i
     ·subst e1;simp [hne]
     ·simp [e1]
theorem zAf.killed {w':World} {id i:Nat} {q:Option Bk} {ob:Ob} (hne:i≠id) (h:zAf σ β w i ob) (hk: ∀ p,β[i]? =some (some p)->w'.heap[p.b]? =w.heap[p.b]?) (hkn: ∀ b o,σ b=some o->w'.heap[b]? =w.heap[b]?):zAf σ (β.set id q) w' i (ob.mapAS (Vm.kill id)):=by
 have key:(β.set id q)[i]? =β[i]? :=by rw [List.getElem?_set_ne (Ne.symm hne)]
 cases ob with
 | row e T xs =>
   obtain ⟨h0,h⟩:=h;refine ⟨h0,?_⟩;rw [key];cases hβ:β[i]? with
   | none=>simp [hβ] at h
   | some x =>
     cases x with
     | none=>simpa [hβ] using h
     | some p =>
       simp only [hβ] at h ⊢;obtain ⟨h1,h2,h3,c,h4,h5⟩:=h;exact ⟨h1,h2,h3,c,by rw [hk p hβ];exact h4,h5⟩
 | flat T cs =>
   obtain ⟨p,h1,h2,h3,h4,h5,c,h6,h7⟩:=h;exact ⟨p,by rw [key];exact h1,h2,by simpa using h3,h4,by simpa using h5,c,by rw [hk p h1];exact h6,h7.map (Vm.kill id) fun _ _ h=>h.kill⟩
 | map k v m =>
   obtain ⟨h0,p,es,clock,h1,h2,h3⟩:=h;exact ⟨h0,p,es,clock,by rw [key];exact h1,by rw [hk p h1];exact h2,h3⟩
 | gmap k e m =>
   obtain ⟨h0,p,es,clock,h1,h2,h3,h4,h5,h6⟩:=h;exact ⟨h0,p,es,clock,by rw [key];exact h1,by rw [hk p h1];exact h2,h3,h4,h5.keep (fun _ _ e=>e) hkn,h6⟩
 | grow e T xss =>
   obtain ⟨h0,p,h1,h2,h3,h4,c,h5,h6,h7,h8⟩:=h;exact ⟨h0,p,by rw [key];exact h1,h2,h3,h4,c,by rw [hk p h1];exact h5,h6,h7,h8.keep (fun _ _ e=>e) hkn⟩
 | fr X l=>exact ⟨by rw [key];exact h.1,fun t=>by rw [j7 _ rfl];exact (h.2 t).mapAS fun _ _ h=>h.kill⟩
theorem GG.replace (h:GG B σ β st tmps w) {id:Nat} {ob ob':Ob} (hi:hget st.hp id=some ob) {q:Option Bk} {w':World}
 (hw: ∀ k,k<w.heap.size->(∀ p,β[id]? =some (some p)->k≠p.b)->w'.heap[k]? =w.heap[k]?) (hb:Below B.w.heap.size w w')
 (ho:zAf σ (β.set id q) w' id ob') (hq: ∀ p',q=some p'->p'.b=w.heap.size\/∃ p,β[id]? =some (some p)/\p'.b=p.b) :
 GG B σ (β.set id q) {env:=st.env.mapAS (kill id),hp:=zA6 (st.hp.mapAS (kill id)) id ob',next:=st.next} tmps w':=by
 have hlt:=h.id_lt hi;have hex: ∃ o,hget (st.hp.mapAS (kill id)) id=some o:=by rw [zA5,hi];exact ⟨_,rfl⟩
 have hat:(β.set id q)[id]? =some q:=by rw [List.getElem?_set_self];rw [h.len];exact hlt
 have hof: ∀ {i:Nat},i≠id->(β.set id q)[i]? =β[i]? :=fun hne=>by rw [List.getElem?_set_ne (Ne.symm hne)]
 have hsig: ∀ b o,σ b=some o->b<w.heap.size:=fun b o e=>h.mem.ag.lt e
 have old: ∀ {i:Nat} {ob2:Ob},i≠id->(hget st.hp i).map (Ob.mapAS (kill id))=some ob2->∃ ob1,hget st.hp i=some ob1/\ob2=ob1.mapAS (kill id):=by
  intro i ob2 _ e;cases e1:hget st.hp i with
  | none=>rw [e1] at e;cases e
  | some ob1=>rw [e1] at e;cases e;exact ⟨ob1,rfl,rfl⟩
 refine ⟨⟨fun b o e=> ?_,fun i ob2 hi2=> ?_⟩,fun t=> ?_,by simpa using h.len,fun i ob2 p hi2 hp2=> ?_,h.bel.trans hb,h.grew⟩
 ·rw [hw b (hsig b o e) (fun p hp=>by
   have:=(h.sep _ _ _ hi hp).1
   rintro rfl;rw [this] at e;cases e)]
  exact h.mem.ag _ _ e
 ·simp only [zAR hex] at hi2;split at hi2
  ·rename_i e;subst e;cases hi2;exact ho
  ·rename_i hne;rw [zA5] at hi2;obtain ⟨ob1,e1,rfl⟩:=old hne hi2;have hob:=h.mem.ob _ _ e1
   exact hob.killed hne (fun p hp=>hw _ (hob.lt hp) fun p' hp'=>(h.sep _ _ _ hi hp').2.2 _ _ _ hne e1 hp) fun b o e=>hw b (hsig b o e) fun p hp=>by
    have:=(h.sep _ _ _ hi hp).1;rintro rfl;rw [this] at e;cases e
 ·rw [j7 _ rfl];exact (h.env t).mapAS fun _ _=>y5.kill
 ·simp only [zAR hex] at hi2;split at hi2
  ·rename_i e;subst e;rw [hat] at hp2;cases hp2
   have other: ∀ (id':Nat) (ob'':Ob) (p':Bk),id'≠i->hget (zA6 (st.hp.mapAS (kill i)) i ob') id'=some ob''->(β.set i (some p))[id']? =some (some p')->p'.b≠p.b:=by
    intro id' ob'' p' hne hi' hp';simp only [zAR hex,if_neg hne,zA5] at hi';obtain ⟨ob1,e1,rfl⟩:=old hne hi';rw [hof hne] at hp';have hob:=h.mem.ob _ _ e1;rcases hq p rfl with hq|⟨p0,hp0,hq⟩
    ·have:=hob.lt hp';omega
    ·rw [hq];exact (h.sep _ _ _ hi hp0).2.2 _ _ _ hne e1 hp'
   rcases hq p rfl with hq|⟨p0,hp0,hq⟩
   ·refine ⟨?_,by rw [hq];exact h.bel.size,other⟩;cases e:σ p.b with
    | none=>rfl
    | some o=>have:=hsig _ _ e;omega
   ·obtain ⟨s1,s2,s3⟩:=h.sep _ _ _ hi hp0;exact ⟨by rw [hq];exact s1,by rw [hq];exact s2,other⟩
  ·rename_i hne;rw [zA5] at hi2;obtain ⟨ob1,e1,rfl⟩:=old hne hi2;rw [hof hne] at hp2;obtain ⟨t1,t2,t3⟩:=h.sep _ _ _ e1 hp2;refine ⟨t1,t2,fun id' ob'' p' hne2 hi' hp'=> ?_⟩;simp only [zAR hex] at hi';split at hi'
   ·rename_i e;subst e;rw [hat] at hp';cases hp';have hob:=h.mem.ob _ _ e1;rcases hq p' rfl with hq|⟨p0,hp0,hq⟩
    ·have:=hob.lt hp2;omega
    ·rw [hq];exact t3 _ _ _ hne2 hi hp0
   ·rename_i hne3;rw [zA5] at hi';obtain ⟨ob3,e3,rfl⟩:=old hne3 hi';rw [hof hne3] at hp';exact t3 _ _ _ hne2 e3 hp'
theorem zCQ {t ty u:TypeId} {i:TypeInfo} (ht:P.underlying t=some (.slice u)) (hi:P.info? u=some i)
 {g off sLen sCap:Nat} {cur:Array Value} {e:TypeId} (hg:w.heap[g]? =some (.cells cur e (0,0)))
 {a:Addr} {m c:Nat} {news:List Value} (hl:news.length=m*i.size) (hnews: ∀ j u,news[j]? =some u->w.cell? (a.add j)=some u) (h1: ∀ u∈news,u.oneCell'=true)
 (hroom:sLen+m<=sCap) (hfit:off+sLen*i.size+news.length<=cur.size) :
 (Builtin.append_ #[t,t] ty #[.slice (some ⟨g,off,none⟩) sLen sCap,.slice (some a) m c]).run P w =
   .ok (.slice (some ⟨g,off,none⟩) (sLen+m) sCap) (w.setRow g (cur.toList.take (off+sLen*i.size)++news++cur.toList.drop (off+sLen*i.size+news.length)).toArray):=by
 have hf:=run_firstCells_some (P:=P) w i.size m a m c news hl hnews;have hst:=run_storeCells_at P g (off+sLen*i.size) e news 0 cur w hg (by simpa using hfit) h1;simp only [Nat.add_zero] at hst;simp [Builtin.append_,run_underlying ht,sizeOf,typeInfo,hi,Builtin.lenOf,hroom,hf,Addr.add_none,hst]
theorem zE0 {t ty u:TypeId} {i:TypeInfo} (ht:P.underlying t=some (.slice u)) (hi:P.info? u=some i) {b ao:Option Addr} {n cap c:Nat} (hc:n<=cap) :
 (Builtin.append_ #[t,t] ty #[.slice b n cap,.slice ao 0 c]).run P w= .ok (.slice b n cap) w:=by
 have hf:(Builtin.firstCells i.size 0 (.slice ao 0 c)).run P w= .ok #[] w:=by
  cases ao<;>simp [Builtin.firstCells,loadCells,loadCellsFrom]
 cases b with
 | none=>simp [Builtin.append_,run_underlying ht,sizeOf,typeInfo,hi,Builtin.lenOf,hc,hf]
 | some b=>simp [Builtin.append_,run_underlying ht,sizeOf,typeInfo,hi,Builtin.lenOf,hc,hf,storeCells]
theorem zOl (h:Mem σ β st.hp w) {a:AV} {x:Value} (ha:y6 σ β a x) {e:ETy} {ys:List e.T} (hv:a.view st.hp= .s (.sl e ys)) :
 ∃ ao c,x= .slice ao ys.length c/\ys.length<=140737488355328/\(ys≠[]->∃ ad,ao=some ad/\∃ dss,jQ (jG σ e) ys dss/\∀ (j:Nat) (u:Value),dss.flatten[j]? =some u->w.cell? (ad.add j)=some u):=by
 cases a with
 | tup l=>simp [AV.view] at hv
 | agg l=>simp [AV.view] at hv
 | s a =>
   simp only [AV.view,AV.s.injEq] at hv
   have stable: ∀ {x:Value},y5 σ β (.sl e ys) x->∃ ao c,x= .slice ao ys.length c/\ys.length<=140737488355328/\(ys≠[]->∃ ad,ao=some ad/\∃ dss,jQ (jG σ e) ys dss/\∀ (j:Nat) (u:Value),dss.flatten[j]? =some u->w.cell? (ad.add j)=some u):=by
    intro x hx;obtain ⟨ao,c,e1,h1,h2,h3⟩:=hx;refine ⟨ao,c,(List.cons.inj e1).1,h1,fun hne=> ?_⟩;obtain ⟨b,o,rfl,h4⟩:=h3 hne
    obtain ⟨dss,h5,h6⟩:=zDp (σ:=σ) (look:=fun k=>w.cell? ⟨b,k,none⟩) (k:=o) (fun i y hy=>by
     obtain ⟨d,h7,h8⟩:=h4 i y hy
     exact ⟨d,h7,fun j u hu=>zHh h h8 j u hu⟩)
    exact ⟨_,rfl,dss,h5,fun j u hu=>by rw [Addr.add_none];exact h6 j u hu⟩
   cases a with
   | sl e' xs=>simp only [view] at hv;cases hv;exact stable ha
   | own id s n =>
     simp only [view] at hv;split at hv
     ·rename_i e' u xs hid;cases hv;have hob:=h.obp hid;obtain ⟨hl,hob⟩:=hob;have hx:y5 σ β (.own id s n) x:=ha;simp only [y5] at hx;cases hβ:β[id]? with
      | none=>simp [hβ] at hx
      | some q =>
        cases q with
        | none =>
          simp only [hβ] at hx hob;obtain ⟨rfl,rfl,rfl⟩:=hx;subst hob;exact ⟨none,0,rfl,by simp,fun h=>(h rfl).elim⟩
        | some p =>
          simp only [hβ] at hx hob;obtain ⟨ad,cap,rfl,h1,h2,h3,h4⟩:=hx;obtain ⟨q1,q2,q3,c,q4,q5,q6⟩:=hob;have hlen:((xs.drop s).take n).length=n:=by simp;omega
          refine ⟨some ad,cap,by rw [hlen],by omega,fun hne=> ?_⟩
          have hn:n≠0:=by
           rintro rfl;simp at hne
          obtain rfl:ad=_:=h2.resolve_left (by omega)
          obtain ⟨dss,h5,h6⟩:=zDp (σ:=σ) (e:=e) (xs:=(xs.drop s).take n) (look:=fun k=>w.cell? ⟨p.b,k,none⟩) (k:=p.o+s*p.sz) (fun i y hy=>by
           have hy':xs[s+i]? =some y:=by
            rw [List.getElem?_take] at hy;split at hy
            ·rw [List.getElem?_drop] at hy;exact hy
            ·cases hy
           obtain ⟨d,h7,h8⟩:=q6 _ _ hy';refine ⟨d,h7,fun j u hu=> ?_⟩;rw [jX q4,<- q1,Nat.add_assoc p.o,<- Nat.add_mul]
           exact h8 j u hu)
          exact ⟨_,rfl,dss,h5,fun j u hu=>by rw [Addr.add_none];exact h6 j u hu⟩
     ·cases hv
   | ptr i j k =>
     cases k with
     | zero=>simp only [view] at hv;split at hv<;>cases hv
     | succ k=>simp [view] at hv
   | pti i j k=>simp [view] at hv
   | omp id=>simp only [view] at hv;split at hv<;>cases hv
   | _=>simp [view] at hv
theorem zLJ {e:ETy} : ∀ {xs:List e.T} {dss:List (List Value)},jQ (jG σ e) xs dss->∀ u∈dss.flatten,u.oneCell'=true
 | [],[],_=>by simp
 | _::_,_::_,h=>by
   intro u hu;simp only [List.flatten_cons,yD] at hu;rcases hu with hu|hu
   ·exact h.1.one u hu
   ·exact zLJ h.2 u hu
 | [],_::_,h=>h.elim
 | _::_,[],h=>h.elim
theorem zKr (hT:zAA P T) (h:GG B σ β st tmps w) (hd:zBE o.dst tmps) {x y:Operand} {ts:Array TypeId} (ho:o.op= .call {callee:= .builtin .append,args:= #[x,y],argTypes:=ts})
 {a b:AV} (ha:y6 σ β a (ρ x)) (hb:y6 σ β b (ρ y)) {p q:Option Prop} {st':St} (he:zB9 T ts.toList a b st o.dst=some (p,q,st')):Opt p/\(Opt q->zLi P B o ρ st' tmps w):=by
 unfold zB9 at he;split at he
 case h_2=>cases he
 rename_i t t' id s n e' ys hts hbv;split at he
 case h_2=>cases he
 rename_i u' e u xs htt hdc hid;split at he
 case h_2=>cases he
 rename_i hee ui hdec huu hui;subst hee;split at he
 case h_2=>cases he
 rename_i hbz hsz hsz0;cases he;refine ⟨trivial,fun hreq=> ?_⟩;have hreq:((n:Int)+ys.length)*ui.bytes<=140737488355328:=hreq;obtain rfl:=zH htt;obtain rfl:=zH huu;have hsz:=zH hsz;have hsz0:ui.size≠0:=by intro e;rw [e] at hsz0;cases hsz0
 have hbz:ui.bytes≠0:=by intro e;rw [e] at hbz;cases hbz
 have htt:ts= #[t,t]:=by rw [<- Array.toArray_toList (xs:=ts),hts]
 subst htt;obtain ⟨i,z,hi,hsi,hbi,hzz,hzl⟩:=(hT _ _ hui).get;have hzs:z.cells.size=i.size:=by rw [hsi,<- (hT _ _ hui).zlen,<- hzl];simp
 have hund:=hT.und hdc (by simp);obtain ⟨ao,c,hy,hyl,hyc⟩:=zOl h.mem hb hbv;have hob:=h.mem.ob _ _ hid;obtain ⟨hxl,hob⟩:=hob;have hx:y5 σ β (.own id s n) (ρ x):=ha
 have hreqN:(n+ys.length)*ui.bytes<=140737488355328:=by
  have:(((n+ys.length)*ui.bytes:Nat):Int)<=140737488355328:=by push_cast;exact hreq
  omega
 have hlen63:n+ys.length<=140737488355328:=Nat.le_trans (Nat.le_mul_of_pos_right _ (by omega)) hreqN;have hlt:id<β.length:=by rw [h.len];exact h.id_lt hid
 have exec: ∀ {v':Value} {w':World},(Builtin.append_ #[t,t] o.type #[ρ x,ρ y]).run P w= .ok v' w'->(execOp ρ o).run P w= .ok (.value v') w':=by
  intro v' w' hr;simp [execOp,ho,resolve,invoke,builtin,hr]
 -- the new thing, once its place and cells are known
 have fin: ∀ {q:Option Bk} {v':Value} {w':World},(execOp ρ o).run P w= .ok (.value v') w'->
  (∀ k,k<w.heap.size->(∀ p,β[id]? =some (some p)->k≠p.b)->w'.heap[k]? =w.heap[k]?)->Below B.w.heap.size w w'->
  (∀ p',q=some p'->p'.b=w.heap.size\/∃ p,β[id]? =some (some p)/\p'.b=p.b)->
  zAf σ (β.set id q) w' id (.row e' u ((xs.drop s).take n++ys))->y5 σ (β.set id q) (.own id 0 (n+ys.length)) v'->
  zLi P B o ρ (({env:=st.env.mapAS (kill id),hp:=zA6 (st.hp.mapAS (kill id)) id (.row e' u ((xs.drop s).take n++ys)),next:=st.next} :St).put o.dst (.s (.own id 0 (n+ys.length)))) tmps w:=by
  intro q v' w' hr hw hbw hq hob' hv';exact ⟨v',w',σ,_,.inl hr,(h.replace hid hw hbw hob' hq).put hd hv'⟩
 have hzl':((xs.drop s).take n++ys).length<=140737488355328:=by
  have:((xs.drop s).take n).length<=n:=List.length_take_le _ _;simp only [zN];omega
 simp only [y5] at hx;cases hβ:β[id]? with
 | none=>simp [hβ] at hx
 | some q0 =>
   cases q0 with
   | none =>
     simp only [hβ] at hx hob;obtain ⟨hx,rfl,rfl⟩:=hx;subst hob
     by_cases hye:ys=[]
     ·subst hye;refine fin (q:=none) (exec (by rw [hx,hy];exact zE0 hund hi (zI 0))) (fun _ _ _=>rfl) (Below.refl _ _) (by rintro p' ⟨⟩) ?_ ?_
      ·refine ⟨by simp,?_⟩;rw [List.getElem?_set_self hlt];simp
      ·simp only [y5];rw [List.getElem?_set_self hlt];simp
     ·obtain ⟨ad,rfl,dss,hd1,hd2⟩:=hyc hye;have hfl:=zBF hd1;have hpos:0<ys.length:=List.length_pos_iff.2 hye;have hr:=run_append_nil (P:=P) w t o.type u i z hund hi hzz ad ys.length c dss.flatten (by rw [hfl,hsi,hsz]) hd2 hpos (by omega) (by rw [hbi];simp only [zD] at hreqN;omega);have hge:=grownCap_ge w ys.length 0 u;refine fin (q:=some ⟨w.heap.size,0,e'.size,grownCap w ys.length 0 u*e'.size,ys.length⟩) (exec (by rw [hx,hy];exact hr)) (fun k hk _=>Go.heap_alloc_old w.drew _ (by simpa using hk)) ?_ (by rintro p' ⟨⟩;exact .inl rfl) ?_ ?_
      ·exact ((Below.refl _ w).drew).alloc (by simpa using h.bel.size) _
      ·refine ⟨hzl',?_⟩;rw [List.getElem?_set_self hlt]
       have hsize:(dss.flatten.toArray++Builtin.zeroCells z.cells (grownCap w ys.length 0 u - ys.length)).size=grownCap w ys.length 0 u*e'.size:=by
        simp only [Array.size_append,List.size_toArray,size_zeroCells,hzs,hfl,hsi,hsz,<- Nat.add_mul]
        congr 1;omega
       refine ⟨rfl,by simp,by simp only [zD];exact Nat.mul_le_mul_right _ hge,_,heap_alloc_new w.drew _,hsize,?_⟩;simp only [zD,List.drop_nil,List.take_nil,List.nil_append]
       have:=zDC (σ:=σ) (look:=fun k=>(dss.flatten.toArray++Builtin.zeroCells z.cells (grownCap w ys.length 0 u - ys.length))[k]?) (k:=0) hd1 (fun j v hj=>by
        rw [zD,Array.getElem?_append_left (by simpa using (zK.1 hj).1)];simpa using hj)
       simpa using this
      ·simp only [y5];rw [List.getElem?_set_self hlt];exact ⟨_,_,by rw [zD],by simpa using hge,.inr (by simp),by simp,by simp⟩
   | some p =>
     simp only [hβ] at hx hob;obtain ⟨ad0,cap,hx,h1,h2,h3,h4⟩:=hx;obtain ⟨q1,q2,q3,cur,q4,q5,q6⟩:=hob;have hsep:=h.sep _ _ _ hid hβ;have htl:((xs.drop s).take n).length=n:=by simp;omega
     -- the elements that are there already
     have olds:RowsIn σ e' ((xs.drop s).take n) cur.toList (p.o+s*p.sz):=by
      intro i' y hy'
      have hyy:xs[s+i']? =some y:=by
       rw [List.getElem?_take] at hy';split at hy'
       ·rw [List.getElem?_drop] at hy';exact hy'
       ·cases hy'
      obtain ⟨d,h7,h8⟩:=q6 _ _ hyy;refine ⟨d,h7,fun j v hj=> ?_⟩;rw [zM,<- q1,Nat.add_assoc p.o,<- Nat.add_mul];exact h8 j v hj
     by_cases hye:ys=[]
     ·subst hye;refine fin (q:=some {p with o:=p.o+s*p.sz,L:=n}) (exec (by rw [hx,hy];exact zE0 hund hi h1)) (fun _ _ _=>rfl) (Below.refl _ _) (by rintro p' ⟨⟩;exact .inr ⟨p,hβ,rfl⟩) ?_ ?_
      ·refine ⟨hzl',?_⟩;rw [List.getElem?_set_self hlt];refine ⟨q1,by simp [htl],?_,cur,q4,q5,?_⟩
       ·show p.o+s*p.sz+n*p.sz<=p.N;have:=Nat.mul_le_mul_right p.sz (show s+n<=s+cap by omega);rw [Nat.add_mul] at this;omega
       ·intro i' y hy';obtain ⟨d,g1,g2⟩:=olds i' y (by simpa using hy');exact ⟨d,g1,fun j v hj=>by have:=g2 j v hj;rw [zM,<- q1] at this;exact this⟩
      ·simp only [y5];rw [List.getElem?_set_self hlt];refine ⟨ad0,cap,rfl,by simpa using h1,h2.imp_right fun e=>by rw [e];simp,?_,by simp⟩;show p.o+s*p.sz+(0+cap)*p.sz<=p.N;rw [zD];rw [Nat.add_mul] at h3;omega
     ·obtain ⟨ad,rfl,dss,hd1,hd2⟩:=hyc hye;have hfl:=zBF hd1;have hpos:0<ys.length:=List.length_pos_iff.2 hye
      by_cases hroom:n+ys.length<=cap
      ·obtain rfl:ad0=_:=h2.resolve_left (by omega)
       have hfit:p.o+s*p.sz+n*i.size+dss.flatten.length<=cur.size:=by
        rw [hfl,hsi,hsz,<- q1,q5];have:=Nat.mul_le_mul_right p.sz (show s+(n+ys.length)<=s+cap by omega);rw [Nat.add_mul,Nat.add_mul] at this;omega
       have hr:=zCQ (P:=P) (w:=w) (ty:=o.type) hund hi q4 (by rw [hfl,hsi,hsz]) hd2 (zLJ hd1) hroom hfit (c:=c);refine fin (q:=some {p with o:=p.o+s*p.sz,L:=n+ys.length}) (exec (by rw [hx,hy];exact hr)) (fun k _ hk=>setRow_other w p.b k _ (hk p hβ)) (Below.setRow w _ _ hsep.2.1) (by rintro p' ⟨⟩;exact .inr ⟨p,hβ,rfl⟩) ?_ ?_
       ·refine ⟨hzl',?_⟩;rw [List.getElem?_set_self hlt];have hcl:p.o+s*p.sz+n*i.size+dss.flatten.length<=cur.toList.length:=by simpa using hfit
        refine ⟨q1,by simp [htl],?_,_,zBM _ q4,?_,?_⟩
        ·show p.o+s*p.sz+(n+ys.length)*p.sz<=p.N;rw [hfl,hsi,hsz,<- q1,q5] at hfit;rw [Nat.add_mul];omega
        ·have hcc:cur.toList.length=cur.size:=by simp
         simp only [List.size_toArray,zN,qZ,List.length_drop,Nat.min_eq_left (show p.o+s*p.sz+n*i.size<=cur.toList.length by omega)];omega
        ·intro i' yv hy';simp only [List.getElem?_toArray,zBa hcl];rw [List.getElem?_append] at hy';split at hy'
         ·rename_i hlt';obtain ⟨d,g1,g2⟩:=olds i' yv hy';have hdl:=g1.length;refine ⟨d,g1,fun j v hj=> ?_⟩;have hj':=(zK.1 hj).1;have:=Nat.mul_le_mul_right e'.size (show i'+1<=n by omega);rw [Nat.succ_mul] at this;rw [if_pos (by rw [hsi,hsz,q1];omega)];have:=g2 j v hj;rw [q1];rw [q1] at this;exact this
         ·rename_i hge;have:=zDC (σ:=σ) (look:=fun k=>dss.flatten[k]?) (k:=0) hd1 (fun j v hj=>by simpa using hj) (i' - ((xs.drop s).take n).length) yv hy';obtain ⟨d,g1,g2⟩:=this;have hdl:=g1.length;refine ⟨d,g1,fun j v hj=> ?_⟩;have hj':=(zK.1 hj).1;have hg:=g2 j v hj;have hg':=(zK.1 hg).1;rw [htl] at hg hg' hge;have e1:i'*e'.size=n*e'.size+(i' - n)*e'.size:=by rw [<- Nat.add_mul];congr 1;omega
          rw [hsi,hsz,q1];rw [if_neg (by omega),if_pos (by omega)];rw [<- hg];congr 1;omega
       ·simp only [y5];rw [List.getElem?_set_self hlt];refine ⟨_,cap,rfl,by simpa using hroom,.inr (by simp),?_,by simp⟩;show p.o+s*p.sz+(0+cap)*p.sz<=p.N;rw [zD];rw [Nat.add_mul] at h3;omega
      ·-- a new array
       obtain ⟨ods,hod1,hod2⟩:=zDp (σ:=σ) (look:=fun k=>cur.toList[k]?) (k:=p.o+s*p.sz) olds;have hofl:=zBF hod1;rw [htl] at hofl
       have hold: ∀ (j:Nat) (v:Value),ods.flatten[j]? =some v->w.cell? (ad0.add j)=some v:=by
        intro j v hj;have hj':=(zK.1 hj).1;have hn:n≠0:=by rintro rfl;rw [Nat.zero_mul] at hofl;omega
        obtain rfl:ad0=_:=h2.resolve_left (by omega);rw [Addr.add_none,jX q4,<- zM];exact hod2 j v hj
       have hr:=run_append_grow (P:=P) w t o.type u i z hund hi hzz ad0 n cap ods.flatten (by rw [hofl,hsi,hsz]) hold ad ys.length c dss.flatten (by rw [hfl,hsi,hsz]) hd2 (by omega) (by omega) (growslice_fits (by omega) (by rw [hbi];exact hreqN));have hge:=grownCap_ge w (n+ys.length) cap u;refine fin (q:=some ⟨w.heap.size,0,e'.size,grownCap w (n+ys.length) cap u*e'.size,n+ys.length⟩) (exec (by rw [hx,hy];exact hr)) (fun k hk _=>Go.heap_alloc_old w.drew _ (by simpa using hk)) ?_ (by rintro p' ⟨⟩;exact .inl rfl) ?_ ?_
       ·exact ((Below.refl _ w).drew).alloc (by simpa using h.bel.size) _
       ·refine ⟨hzl',?_⟩;rw [List.getElem?_set_self hlt]
        have hsize:(ods.flatten.toArray++dss.flatten.toArray++Builtin.zeroCells z.cells (grownCap w (n+ys.length) cap u - (n+ys.length))).size=grownCap w (n+ys.length) cap u*e'.size:=by
         simp only [Array.size_append,List.size_toArray,size_zeroCells,hzs,hfl,hofl,hsi,hsz,<- Nat.add_mul]
         congr 1;omega
        refine ⟨rfl,by simp [htl],by simp only [zD];exact Nat.mul_le_mul_right _ hge,_,heap_alloc_new w.drew _,hsize,?_⟩;have hall:jQ (jG σ e') ((xs.drop s).take n++ys) (ods++dss):=hod1.append hd1
        have:=zDC (σ:=σ) (look:=fun k=>(ods.flatten.toArray++dss.flatten.toArray++Builtin.zeroCells z.cells (grownCap w (n+ys.length) cap u - (n+ys.length)))[k]?) (k:=0) hall (fun j v hj=>by
         rw [List.flatten_append] at hj
         rw [zD,Array.getElem?_append_left (by simpa using (zK.1 hj).1)];simpa using hj)
        simpa using this
       ·simp only [y5];rw [List.getElem?_set_self hlt];exact ⟨_,_,rfl,by simpa using hge,.inr (by simp),by simp,by simp⟩
end
end Go.Vm
/- Calls of functions by what is proved of them. -/
namespace Go.Vm
open Go.RowKit
def zCn (P:Program) (f:FuncId) (args:List AV) (r:Res):Prop :=
 ∀ (σ:Sig) (vals:List Value) (w:World),Ag σ w->jH σ [] args vals->
   Opt r.1/\(Opt r.2.1->Calls P f vals.toArray w fun e w'=> ∃ v σ',e= .returned v/\σ.le σ'/\Ag σ' w'/\
    (∀ b,b<w.heap.size->σ' b=σ b)/\y6 σ' [] r.2.2 v/\Below w.heap.size w w')
structure z4E (P:Program) (T:Tab):Prop where
 ok: ∀ f c,zFP T.fn f=some c->∀ args r,c args=some r->zCn P f args r
 fn : ∀ f c, zFP T.fn f = some c → ∃ fn, P.funcs[f]? = some fn ∧ (fn.name == "runtime.NumGoroutine") = false ∧ fn.body.isNone = false
section
variable {P:Program} {B:Base} {w:World} {σ:Sig} {β:yR} {st:St} {tmps:Array Value} {T:Tab} {hp:jJ}
def zDi (w:World):Sig:=fun b=>w.heap[b]?
theorem zYc (h:Mem σ β hp w):σ.le (zDi w):=fun b o e=>h.ag b o e
theorem zOq:Ag (zDi w) w:=fun _ o e=>⟨o,e,.refl⟩
theorem zXG {τ:Sig} (hown: ∀ id ob p,hget hp id=some ob->β[id]? =some (some p)->τ p.b=w.heap[p.b]?) {id:Nat} {o:Ob} {p:Bk} (h:hgp hp id=some o) (hβ:β[id]? =some (some p)):τ p.b=w.heap[p.b]? :=by
 obtain ⟨o',h1,_⟩:=zFx h;exact hown _ _ _ h1 hβ
theorem view_rep_at {τ:Sig} (hτ:σ.le τ) (hown: ∀ id ob p,hget hp id=some ob->β[id]? =some (some p)->τ p.b=w.heap[p.b]?) (h:Mem σ β hp w) {a:AS} {v:Value} (ha:y5 σ β a v):y5 τ [] (view hp a) v:=by
 cases a with
 | int=>exact ha
 | bool=>exact ha
 | val=>exact ha
 | sl=>exact jG.mono hτ ha
 | mp=>exact jG.mono hτ ha
 | pt=>exact jG.mono hτ ha
 | ip=>obtain ⟨b,o,d,e,h1,h2⟩:=ha;exact ⟨b,o,d,e,h1.mono hτ,h2.mono hτ⟩
 | ipi=>obtain ⟨b,o,d,e,h1,h2,h3⟩:=ha;exact ⟨b,o,d,e,h1.mono hτ,h2.mono hτ,h3⟩
 | junk=>trivial
 | pti=>trivial
 | own id s n =>
   simp only [view];split
   ·rename_i e u xs hid;obtain ⟨hl,hob⟩:=h.obp hid;simp only [y5] at ha;cases hβ:β[id]? with
    | none=>simp [hβ] at ha
    | some q =>
      cases q with
      | none =>
        simp only [hβ] at ha hob;obtain ⟨rfl,rfl,rfl⟩:=ha;subst hob;exact ⟨none,0,rfl,by simp,by simp,fun h=>(h rfl).elim⟩
      | some p =>
        simp only [hβ] at ha hob;obtain ⟨ad,cap,rfl,h1,h2,h3,h4⟩:=ha;obtain ⟨q1,q2,q3,c,q4,q5,q6⟩:=hob;have hlen:((xs.drop s).take n).length=n:=by simp;omega
        refine ⟨some ad,cap,by rw [hlen],by omega,by omega,fun hne=> ?_⟩;have hn:n≠0:=by rintro rfl;simp at hne
        obtain rfl:ad=_:=h2.resolve_left (by omega);refine ⟨p.b,p.o+s*p.sz,rfl,fun i y hy=> ?_⟩
        have hy':xs[s+i]? =some y:=by
         rw [List.getElem?_take] at hy;split at hy
         ·rw [List.getElem?_drop] at hy;exact hy
         ·cases hy
        obtain ⟨d,h7,h8⟩:=q6 _ _ hy';refine ⟨d,h7.mono hτ,c,u,(0,0),(zXG hown hid hβ).trans q4,fun j v hj=> ?_⟩;have:=h8 j v hj;rw [<- this,<- q1,Nat.add_mul];congr 1;omega
   ·trivial
 | ptr id i k =>
   cases k with
   | succ k=>trivial
   | zero =>
     simp only [view];split
     ·rename_i e u xs hid;obtain ⟨hl,hob⟩:=h.obp hid;obtain ⟨p,hp',rfl,hi⟩:=ha;simp only [hp'] at hob;obtain ⟨q1,q2,q3,c,q4,q5,q6⟩:=hob;obtain ⟨y,hy⟩:=zB6 (l:=xs) (q2▸hi);obtain ⟨d,h7,h8⟩:=q6 _ _ hy;rw [zEI hy];exact ⟨p.b,p.o+i*p.sz,d,rfl,h7.mono hτ,c,u,(0,0),(zXG hown hid hp').trans q4,h8⟩
     ·trivial
 | arr=>trivial
 | nq=>exact ha
 | clo f ps=>obtain ⟨vs,e,r⟩:=ha;exact ⟨vs,e,r.mono fun _ _=>jG.mono hτ⟩
 | omp id =>
   simp only [view];split
   ·rename_i k v m hid;obtain ⟨hl,p,es,clock,h1,h2,h3,h4⟩:=h.obp hid;obtain ⟨p',h1',rfl,_⟩:=ha;rw [h1] at h1';cases h1';refine ⟨some p.b,rfl,hl,(fun e=>by cases e),fun b hb=> ?_⟩;cases hb;exact ⟨es,clock,(zXG hown hid h1).trans h2,h3,fun i x hx=>let ⟨en,dk,dv,e1,e2,e3,e4,e5⟩:=h4 i x hx;⟨en,dk,dv,e1,e2.mono hτ,e3,e4.mono hτ,e5⟩⟩
   ·trivial
theorem AV.view_rep_at {τ:Sig} (hτ:σ.le τ) (hown: ∀ id ob p,hget hp id=some ob->β[id]? =some (some p)->τ p.b=w.heap[p.b]?) (h:Mem σ β hp w) {a:AV} {v:Value} (ha:y6 σ β a v):y6 τ [] (a.view hp) v:=by
 cases a with
 | s a=>exact Vm.view_rep_at hτ hown h ha
 | agg l=>obtain ⟨ds,e,r⟩:=ha;exact ⟨ds,e,r.map (Vm.view hp) fun _ _ h'=>Vm.view_rep_at hτ hown h h'⟩
 | tup l=>trivial
theorem viewT_rep_at {τ:Sig} (hτ:σ.le τ) (hown: ∀ id ob p,hget hp id=some ob->β[id]? =some (some p)->τ p.b=w.heap[p.b]?) (h:Mem σ β hp w) {a:AS} {v:Value} (ha:y5 σ β a v):y5 τ [] (viewT T hp a) v:=by
 unfold viewT;split
 ·split
  ·rename_i t cs hid;split
   ·split
    ·rename_i e he;split
     ·rename_i x hx;obtain ⟨p,hp',hv,hi⟩:=ha;obtain ⟨p2,q0,q1,q2,q3,q4,c,q5,q6⟩:=h.obp hid;rw [hp'] at q0;cases q0;have hE:jG τ e x c.toList:=ETy.dec_sound (β:=[]) hx (q6.map (Vm.view hp) fun _ _ h'=>view_rep_at hτ hown h h');refine ⟨p.b,0,c.toList,?_,hE,c,t,(0,0),(zXG hown hid hp').trans q5,fun j d hd=>by simpa using hd⟩;rw [hv,q1];simp
     ·trivial
    ·trivial
   ·trivial
  ·exact view_rep_at hτ hown h ha
 ·split
  ·rename_i t cs hid;split
   ·rename_i ns hns hln hle;obtain ⟨p,hp',hv,hnp,_⟩:=ha;obtain ⟨p2,q0,q1,q2,q3,q4,c,q5,q6⟩:=h.obp hid;rw [hp'] at q0;cases q0;obtain ⟨h1,h2,h3⟩:=zEP hns q6;have hln:=zH hln;have hle:=zU hle;refine ⟨some ⟨p.b,p.o,none⟩,_,by rw [hv,h1,hln],by omega,by omega,fun _=>⟨p.b,p.o,rfl,fun i x hx=> ?_⟩⟩;have hi:i<cs.length:=by have:=(zK.1 hx).1;omega
    obtain ⟨k1,k2⟩:=h3 i hi;rw [show ns.getD i 0=x by rw [zR,hx];rfl] at k1 k2;refine ⟨[.int .i64 x],⟨rfl,k2⟩,c,t,(0,0),(zXG hown hid hp').trans q5,fun j d hd=> ?_⟩;cases j with
    | zero =>
      simp at hd;subst hd;rw [q1,<- zM,show 0+i*(ETy.int .i64).size+0=i by simp [ETy.size]];exact k1
    | succ j=>simp at hd
   ·trivial
  ·trivial
 ·exact view_rep_at hτ hown h ha
theorem AV.viewT_rep_at {τ:Sig} (hτ:σ.le τ) (hown: ∀ id ob p,hget hp id=some ob->β[id]? =some (some p)->τ p.b=w.heap[p.b]?) (h:Mem σ β hp w) {a:AV} {v:Value} (ha:y6 σ β a v):y6 τ [] (a.viewT T hp) v:=by
 cases a with
 | s a=>exact Vm.viewT_rep_at hτ hown h ha
 | agg l=>obtain ⟨ds,e,r⟩:=ha;exact ⟨ds,e,r.map (Vm.viewT T hp) fun _ _ h'=>Vm.viewT_rep_at hτ hown h h'⟩
 | tup l=>trivial
theorem AV.viewT_rep (h:Mem σ β hp w) {a:AV} {v:Value} (ha:y6 σ β a v):y6 (zDi w) [] (a.viewT T hp) v:=AV.viewT_rep_at (zYc h) (fun _ _ _ _ _=>rfl) h ha
theorem AS.clear_rep {a:AS} {v:Value} (hc:a.clear=true) (ha:y5 σ β a v):view hp a=a/\y5 σ [] a v:=by
 cases a<;>first|exact ⟨rfl,ha⟩|(simp [AS.clear] at hc)
theorem zNa: ∀ {l:List AS} {ds:List Value},l.all AS.clear=true->jQ (y5 σ β) l ds->l.map (view hp)=l/\jQ (y5 σ []) l ds
 | [],[],_,_=>⟨rfl,trivial⟩
 | a::l,d::ds,h,hr=>by
   simp only [List.all_cons,zC] at h;obtain ⟨h1,h2⟩:=zNa h.2 hr.2;obtain ⟨h3,h4⟩:=AS.clear_rep (hp:=hp) h.1 hr.1;exact ⟨by simp [h1,h3],h4,h2⟩
 | [],_::_,_,hr=>hr.elim
 | _::_,[],_,hr=>hr.elim
theorem AV.clear_rep {a:AV} {v:Value} (hc:a.clear=true) (ha:y6 σ β a v):a.view hp=a/\y6 σ [] a v:=by
 cases a with
 | s a=>obtain ⟨h1,h2⟩:=AS.clear_rep (hp:=hp) hc ha;exact ⟨congrArg AV.s h1,h2⟩
 | agg l=>obtain ⟨ds,e,r⟩:=ha;obtain ⟨h1,h2⟩:=zNa (hp:=hp) hc r;exact ⟨congrArg AV.agg h1,ds,e,h2⟩
 | tup l=>cases hc
theorem AS.clearT {a:AS} (hc:a.clear=true):viewT T hp a=a:=by
 cases a<;>first|rfl|(simp [AS.clear] at hc)
theorem AV.clear_repT {a:AV} {v:Value} (hc:a.clear=true) (ha:y6 σ β a v):a.viewT T hp=a/\y6 σ [] a v:=by
 refine ⟨?_,(AV.clear_rep (hp:=hp) hc ha).2⟩;cases a with
 | s a=>exact congrArg AV.s (AS.clearT hc)
 | agg l =>
   refine congrArg AV.agg ?_
   have: ∀ {l:List AS},l.all AS.clear=true->l.map (Vm.viewT T hp)=l:=by
    intro l
    induction l with
    | nil=>intro _;rfl
    | cons a l ih=>intro h;simp only [List.all_cons,zC] at h;rw [List.map_cons,AS.clearT h.1,ih h.2]
   exact this hc
 | tup l=>cases hc
theorem plain_rep {τ:Sig} {γ:yR} {a:AS} {v:Value} (hc:a.plain=true) (ha:y5 σ β a v):y5 τ γ a v:=by
 cases a<;>first|exact ha|(simp [AS.plain] at hc)
theorem zIy {τ:Sig} {γ:yR} : ∀ {l:List AS} {ds:List Value},l.all AS.plain=true->jQ (y5 σ β) l ds->jQ (y5 τ γ) l ds
 | [],[],_,_=>trivial
 | a::l,d::ds,h,hr=>by
   simp only [List.all_cons,zC] at h;exact ⟨plain_rep h.1 hr.1,zIy h.2 hr.2⟩
 | [],_::_,_,hr=>hr.elim
 | _::_,[],_,hr=>hr.elim
theorem zOC {τ:Sig} {γ:yR} : ∀ {l:List AV} {ds:List Value},(l.all fun v=>match v with
 | .s a=>a.plain
 | .agg l=>l.all AS.plain
 | .tup _=>false)=true->jH σ β l ds->jH τ γ l ds
 | [],[],_,_=>trivial
 | a::l,d::ds,h,hr=>by
   simp only [List.all_cons,zC] at h;refine ⟨?_,zOC h.2 hr.2⟩;cases a with
   | s a=>exact plain_rep h.1 hr.1
   | agg l=>obtain ⟨ds,e,r⟩:=hr.1;exact ⟨ds,e,zIy h.1 r⟩
   | tup l=>cases h.1
 | [],_::_,_,hr=>hr.elim
 | _::_,[],_,hr=>hr.elim
theorem AV.plain_rep {τ:Sig} {γ:yR} {a:AV} {v:Value} (hc:a.plain=true) (ha:y6 σ β a v):y6 τ γ a v:=by
 cases a with
 | s a=>exact Vm.plain_rep hc ha
 | agg l=>obtain ⟨ds,e,r⟩:=ha;exact ⟨ds,e,zIy hc r⟩
 | tup l=>obtain ⟨vs,e,r⟩:=ha;exact ⟨vs,e,zOC hc r⟩
theorem y6.nil_any {a:AV} {v:Value} (h:y6 σ [] a v):y6 σ β a v:=by
 refine h.map fun a v ha=> ?_;cases a with
 | own id s n=>simp [y5] at ha
 | ptr=>obtain ⟨p,e,_⟩:=ha;simp at e
 | pti=>obtain ⟨p,e,_⟩:=ha;simp at e
 | omp=>obtain ⟨p,e,_⟩:=ha;simp at e
 | arr=>obtain ⟨p,e,_⟩:=ha;simp at e
 | _=>exact ha
theorem GG.world (h:GG B σ β st tmps w) {σ':Sig} {w':World} (hs:σ.le σ') (hag:Ag σ' w') (hn: ∀ b,b<w.heap.size->σ' b=σ b) (hb:Below w.heap.size w w'):GG B σ' β st tmps w':=by
 refine ⟨⟨hag,fun id ob hi=> ?_⟩,fun t=>(h.env t).mono hs,h.len,fun id ob p hi hp=> ?_,h.bel.trans (hb.mono h.bel.size),h.grew.1.trans hs,fun b hl=>(hn b (Nat.lt_of_lt_of_le hl h.bel.size)).trans (h.grew.2 b hl)⟩
 ·have hob:=h.mem.ob _ _ hi;exact (hob.same (fun p hp=>hb.block _ (hob.lt hp)) fun b o e=>hb.block _ (h.mem.ag.lt e)).sig hs fun b o e=>(hn b (h.mem.ag.lt e)).trans e
 ·obtain ⟨s1,s2,s3⟩:=h.sep _ _ _ hi hp;exact ⟨(hn _ ((h.mem.ob _ _ hi).lt hp)).trans s1,s2,s3⟩
theorem zG4 (hF:z4E P T) (h:GG B σ β st tmps w) {f:FuncId} {ts:List TypeId} {vs:List AV} {vals:List Value} (hv:jH σ β vs vals) {p q:Option Prop} {v:AV}
 (hc:zE1 T st.hp (.value (.func f)) ts vs=some (p,q,v)) :
 Opt p/\(Opt q->Calls P f vals.toArray w fun e w'=> ∃ u σ',e= .returned u/\GG B σ' β st tmps w'/\y6 σ' β v u)/\
  ∃ fn, P.funcs[f]? = some fn ∧ (fn.name == "runtime.NumGoroutine") = false ∧ fn.body.isNone = false := by
 unfold zE1 at hc;split at hc
 all_goals first|contradiction|skip
 case h_5=>rename_i h3 _ _ _;exact (h3 f rfl).elim
 rename_i f' vs' e1;cases e1;split at hc
 case h_2=>cases hc
 rename_i c hcf;split at hc
 case h_2=>cases hc
 rename_i p' q' v' hcr;split at hc
 case h_2=>cases hc
 rename_i hcl;cases hc;rw [Bool.or_eq_true] at hcl;obtain ⟨fn,hfn⟩:=hF.fn _ _ hcf;have hok:=hF.ok _ _ hcf _ _ hcr;rcases hcl with hcl|hpl
 ·have hview: ∀ {l:List AV} {ds:List Value},l.all AV.clear=true->jH σ β l ds->l.map (AV.viewT T st.hp)=l/\jH σ [] l ds:=by
   intro l
   induction l with
   | nil=>intro ds _ hr;cases ds with
     | nil=>exact ⟨rfl,trivial⟩
     | cons _ _=>exact hr.elim
   | cons a l ih=>intro ds hh hr;cases ds with
     | nil=>exact hr.elim
     | cons d ds =>
       simp only [List.all_cons,zC] at hh;obtain ⟨h1,h2⟩:=ih hh.2 hr.2;obtain ⟨h3,h4⟩:=AV.clear_repT (T:=T) (hp:=st.hp) hh.1 hr.1;exact ⟨by simp [h1,h3],h4,h2⟩
  obtain ⟨h1,h2⟩:=hview hcl hv;rw [h1] at hok;obtain ⟨h3,h4⟩:=hok σ vals w h.mem.ag h2;refine ⟨h3,fun hq=>(h4 hq).mono fun e w' ⟨u,σ',e1,e2,e3,e4,e5,e6⟩=>⟨u,σ',e1,h.world e2 e3 e4 e6,e5.nil_any⟩,fn,hfn⟩
 ·have hview: ∀ {l:List AV} {ds:List Value},jH σ β l ds->jH (zDi w) [] (l.map (AV.viewT T st.hp)) ds:=by
   intro l
   induction l with
   | nil=>intro ds hr;cases ds with
     | nil=>trivial
     | cons _ _=>exact hr.elim
   | cons a l ih=>intro ds hr;cases ds with
     | nil=>exact hr.elim
     | cons d ds=>exact ⟨AV.viewT_rep h.mem hr.1,ih hr.2⟩
  obtain ⟨h3,h4⟩:=hok (zDi w) vals w zOq (hview hv);refine ⟨h3,fun hq=>(h4 hq).mono fun e w' ⟨u,σ',e1,e2,e3,e4,e5,e6⟩=>⟨u,σ,e1,h.world (Sig.le.refl _) (fun b o e=> ?_) (fun _ _=>rfl) e6,AV.plain_rep hpl e5⟩,fn,hfn⟩;rw [e6.block _ (h.mem.ag.lt e)];exact h.mem.ag _ _ e
end
end Go.Vm
/- Maps: looking up, setting, making. -/
namespace Go.Vm
open Go.RowKit
structure zDH (P:Program) (kt:TypeId) (k:ETy):Prop where
 check: ∀ (w:World) (em:Bool) {σ:Sig} {x:k.T} {ds:List Value},jG σ k x ds->(Instr.checkKey em 10000 kt (yX k ds)).run P w= .ok () w
 find: ∀ (w:World) {σ:Sig} {x:k.T} {ds:List Value},jG σ k x ds->∀ es:List MapEntry,(∀ e∈es,∃ (σ:Sig) (y:k.T) (dk:List Value),jG σ k y dk/\e.key=yX k dk)->
  ((Instr.findKey kt (yX k ds) es).run P w= .ok none w/\∀ e∈es,e.key≠yX k ds)\/∃ j e,(Instr.findKey kt (yX k ds) es).run P w= .ok (some (j,e.val)) w/\es[j]? =some e/\e.key=yX k ds
 stays: ∀ (w:World) {σ:Sig} {x:k.T} {ds:List Value},jG σ k x ds->(Instr.keyThatStays (yX k ds) (yX k ds)).run P w= .ok (yX k ds) w
 inj: ∀ {σ τ:Sig} {x y:k.T} {ds dk:List Value},jG σ k x ds->jG τ k y dk->(yX k ds=yX k dk↔x=y)
structure zFC (P:Program) (kt u:TypeId) (k e:ETy):Prop where
 key:zDH P kt k
 zero: ∀ i,P.info? u=some i->i.zero=some (yX e e.zeroVals)
def zSE (P:Program) (T:Tab):Prop:= ∀ t kt u,T.desc t= .map kt u->∀ ki ui k e,T.info kt=some ki->T.info u=some ui->ki.ety=some k->ui.ety=some e->zFC P kt u k e
section key
variable {P:Program} {kt:TypeId}
theorem zDH.wide {k:ETy} (hl:WideMaps.KeyLaw P kt) (hkey: ∀ {σ:Sig} {x:k.T} {ds:List Value},jG σ k x ds->∃ l,keyOf P kt (yX k ds)=some l)
 (hinj: ∀ {σ τ:Sig} {x y:k.T} {ds dk:List Value},jG σ k x ds->jG τ k y dk->(yX k ds=yX k dk↔x=y)):zDH P kt k where
 check:=fun w em _ _ _ h=>let ⟨_,e⟩:=hkey h;hl.check w em e
 find:=fun w _ _ _ h es hes=>by
  obtain ⟨lx,hx⟩:=hkey h
  exact hl.find w hx es fun e he=>by
   obtain ⟨σ,y,dk,h1,h2⟩:=hes e he;rw [h2];exact hkey h1
 stays:=fun w _ _ _ h=>let ⟨_,e⟩:=hkey h;hl.stays w e
 inj:=hinj
theorem zXd {n:Int} (h:InK .i64 n):(Lit.int .i64 n).wf=true:=by
 obtain ⟨h1,h2⟩:=InK.i64.1 h;simp only [Lit.wf,zC,zP];exact ⟨h1,h2⟩
theorem zNs {m:Nat} {u:TypeId} (hu:P.underlying kt=some (.array m u)) (he:P.underlying u=some (.int .i64)) (hc:P.cellsOf kt=m) (hce:P.cellsOf u=1) (hk:P.keyType kt=true) (hsz:0<P.types.size)
 {ns:List Int} (hm:ns.length=m) (hn: ∀ n∈ns,InK .i64 n): ∃ l,keyOf P kt (.agg (ns.map fun n=>Value.int .i64 n).toArray)=some l:=by
 obtain ⟨d,hd⟩: ∃ d,P.types.size=d+1:=⟨P.types.size - 1,by omega⟩;unfold keyOf;rw [hu];simp only [hk,Value.formed,hu,Bool.true_and,hc];rw [if_pos (by simp [hm])];have hcells:(Value.agg (ns.map fun n=>Value.int .i64 n).toArray).cells.toList=ns.map fun n=>Value.int .i64 n:=by simp [Value.cells]
 rw [hcells,hd]
 have hone: ∀ i∈List.range m,P.keyLits (d+1) u (((ns.map fun n=>Value.int .i64 n).drop (i*P.cellsOf u)).take (P.cellsOf u))=some [.int .i64 (ns.getD i 0)]:=by
  intro i hi;have hi:=zV.1 hi;have hlt:i<ns.length:=by omega
  rw [hce,Nat.mul_one]
  have e1:((ns.map fun n=>Value.int .i64 n).drop i).take 1=[.int .i64 (ns[i])]:=by
   rw [List.drop_eq_getElem_cons (by simpa using hlt)];simp
  have e2:ns.getD i 0=ns[i]:=by simp [zR,hlt]
  rw [e1,e2];simp only [Program.keyLits,he];simp [zXd (hn _ (yQ hlt))]
 have hmap:(List.range m).mapM (fun i=>P.keyLits (d+1) u (((ns.map fun n=>Value.int .i64 n).drop (i*P.cellsOf u)).take (P.cellsOf u)))=some ((List.range m).map fun i=>[Lit.int .i64 (ns.getD i 0)]):=by
  generalize List.range m=l at hone
  induction l with
  | nil=>rfl
  | cons x l ih =>
    rw [List.mapM_cons,hone x (by simp)];simp only [Option.bind_eq_bind,Option.bind_some];rw [ih fun i hi=>hone i (by simp [hi])];rfl
 have htop:P.keyLits (d+1+1) kt (ns.map fun n=>Value.int .i64 n)=some ((List.range m).map fun i=>[Lit.int .i64 (ns.getD i 0)]).flatten:=by
  unfold Program.keyLits;simp only [hu];rw [if_pos (by simp [hc,hm]),hmap];rfl
 rw [htop];exact ⟨_,rfl⟩
theorem zDH.arr2 (hl:WideMaps.KeyLaw P kt) {u:TypeId} (hu:P.underlying kt=some (.array 2 u)) (he:P.underlying u=some (.int .i64)) (hc:P.cellsOf kt=2) (hce:P.cellsOf u=1) (hk:P.keyType kt=true) (hsz:0<P.types.size):zDH P kt .arr2:=by
 refine zDH.wide hl (fun {σ x ds} h=> ?_) (fun {σ τ x y ds dk} h h'=> ?_)
 ·obtain ⟨rfl,h1,h2⟩:=h;exact zNs hu he hc hce hk hsz (ns:=[x.1,x.2]) rfl (by simp [h1,h2])
 ·obtain ⟨rfl,_⟩:=h;obtain ⟨rfl,_⟩:=h';obtain ⟨a,b⟩:=x;obtain ⟨c,d⟩:=y;simp [yX]
theorem zDH.arr3 (hl:WideMaps.KeyLaw P kt) {u:TypeId} (hu:P.underlying kt=some (.array 3 u)) (he:P.underlying u=some (.int .i64)) (hc:P.cellsOf kt=3) (hce:P.cellsOf u=1) (hk:P.keyType kt=true) (hsz:0<P.types.size):zDH P kt .arr3:=by
 refine zDH.wide hl (fun {σ x ds} h=> ?_) (fun {σ τ x y ds dk} h h'=> ?_)
 ·obtain ⟨rfl,h1,h2,h3⟩:=h;exact zNs hu he hc hce hk hsz (ns:=[x.1,x.2.1,x.2.2]) rfl (by simp [h1,h2,h3])
 ·obtain ⟨rfl,_⟩:=h;obtain ⟨rfl,_⟩:=h';obtain ⟨a,b,e⟩:=x;obtain ⟨c,d,f⟩:=y;simp [yX]
theorem zDH.int {q:IntKind} (hu:P.underlying kt=some (.int q)):zDH P kt (.int q) where
 check:=fun w em _ x _ h=>by
  obtain ⟨rfl,_⟩:=h;exact MapKept.run_checkKey hu (show MapKept.IsKey _ _ by simp [MapKept.IsKey,yX]) em 9999
 find:=fun w σ x ds h es hes=>by
  obtain ⟨rfl,_⟩:=h;have hk:MapKept.IsKey (.int q) (yX (.int q) [.int q x]):=by simp [MapKept.IsKey,yX]
  rcases MapKept.findNow_spec hk es 0 (fun e he=>by
   obtain ⟨_,y,dk,⟨rfl,_⟩,h2⟩:=hes e he
   rw [h2];simp [MapKept.IsKey,yX]) with ⟨h1,h2⟩|⟨j,e,h1,h2,h3⟩
  ·exact .inl ⟨MapKept.run_findKey hu h1,h2⟩
  ·exact .inr ⟨j,e,by simpa using MapKept.run_findKey (w:=w) hu h1,h2,h3⟩
 stays:=fun w σ x ds h=>by
  obtain ⟨rfl,_⟩:=h;simp [Instr.keyThatStays,yX,Instr.sameBits]
 inj:=fun {σ τ x y ds dk} h h'=>by
  obtain ⟨rfl,_⟩:=h;obtain ⟨rfl,_⟩:=h';simp [yX]
end key
section
variable {P:Program} {B:Base} {w:World} {σ:Sig} {β:yR} {st:St} {tmps:Array Value} {T:Tab} {hp:jJ}
def MapAt (σ:Sig) (k v:ETy) (m:List (k.T×v.T)) (es:Array MapEntry):Prop :=
 es.size=m.length/\∀ (i:Nat) (x:k.T×v.T),m[i]? =some x->∃ (en:MapEntry) (dk dv:List Value),es[i]? =some en/\jG σ k x.1 dk/\en.key=yX k dk/\jG σ v x.2 dv/\en.val=yX v dv
theorem zYB (h:Mem σ β hp w) {a:AS} {vx:Value} {mv:z9f} (ha:y5 σ β a vx) (e:zS9 hp a=some mv) :
 ∃ r,vx= .map r/\(mv.m.map (·.1)).Nodup/\(r=none->mv.m=[])/\∀ b,r=some b->∃ es clock,w.heap[b]? =some (.map es clock)/\MapAt σ mv.k mv.v mv.m es:=by
 unfold zS9 at e;split at e
 ·cases e;obtain ⟨r,e1,h1,h2,h3⟩:=ha;obtain rfl:=(List.cons.inj e1).1
  exact ⟨r,rfl,h1,h2,fun b hb=>by
   obtain ⟨es,clock,q1,q2,q3⟩:=h3 b hb;obtain ⟨o',q4,q5⟩:=h.ag _ _ q1;obtain rfl:=q5.map
   exact ⟨es,clock,q4,q2.1,q3⟩⟩
 ·split at e
  ·rename_i hid;cases e;obtain ⟨h0,p,es,clock,q1,q2,q3,q4⟩:=h.obp hid;obtain ⟨p',hp',rfl,_⟩:=ha;rw [q1] at hp';cases hp';exact ⟨_,rfl,h0,(fun e=>by cases e),fun b hb=>by cases hb;exact ⟨es,clock,q2,q3.1,q4⟩⟩
  ·cases e
 ·cases e
section assoc
variable {k:ETy} {V:Type}
theorem zCP {q:k.T} : ∀ {m:List (k.T×V)},(∀ p∈m,p.1≠q)->jS k m q=none/\∀ v,zAB k m q v=m++[(q,v)]
 | [],_=>⟨rfl,fun _=>rfl⟩
 | (x,y)::r,h=>by
   obtain ⟨h1,h2⟩:=zCP (m:=r) fun p hp=>h p (zQ _ hp);have hne:x≠q:=h (x,y) (by simp);constructor
   ·simp only [jS];split
    ·rename_i e _;exact (hne e).elim
    ·exact h1
   ·intro v;simp only [zAB];split
    ·rename_i e _;exact (hne e).elim
    ·rw [h2];rfl
theorem zEB {q:k.T} {y:V} : ∀ {m:List (k.T×V)} {j:Nat},(m.map (·.1)).Nodup->m[j]? =some (q,y)->jS k m q=some y/\∀ v,zAB k m q v=m.set j (q,v)
 | [],j,_,h=>by simp at h
 | (x,z)::r,0,hn,h=>by
   simp only [List.getElem?_cons_zero,Option.some.injEq,Prod.mk.injEq] at h;obtain ⟨rfl,rfl⟩:=h;constructor
   ·simp only [jS];split
    ·rfl
    ·rename_i e _;exact (e rfl).elim
   ·intro v;simp only [zAB];split
    ·rfl
    ·rename_i e _;exact (e rfl).elim
 | (x,z)::r,j+1,hn,h=>by
   simp only [List.getElem?_cons_succ] at h;simp only [List.map_cons,List.nodup_cons] at hn
   have hne:x≠q:=by
    rintro rfl;exact hn.1 (yC.2 ⟨(x,y),List.mem_of_getElem? h,rfl⟩)
   obtain ⟨h1,h2⟩:=zEB hn.2 h;constructor
   ·simp only [jS];split
    ·rename_i e _;exact (hne e).elim
    ·exact h1
   ·intro v;simp only [zAB];split
    ·rename_i e _;exact (hne e).elim
    ·rw [h2];rfl
end assoc
theorem zEE {kt:TypeId} {k v:ETy} (hk:zDH P kt k) {m:List (k.T×v.T)} {es:Array MapEntry} (hm:MapAt σ k v m es) {q:k.T} {ds:List Value} (hq:jG σ k q ds) :
 ((Instr.findKey kt (yX k ds) es.toList).run P w= .ok none w/\∀ p∈m,p.1≠q)\/
 ∃ j en y dv,(Instr.findKey kt (yX k ds) es.toList).run P w= .ok (some (j,en.val)) w/\es[j]? =some en/\en.key=yX k ds/\m[j]? =some (q,y)/\jG σ v y dv/\en.val=yX v dv:=by
 obtain ⟨hs,hm⟩:=hm
 have back: ∀ (i:Nat) (en:MapEntry),es[i]? =some en->∃ (x:k.T×v.T) (dk dv:List Value),m[i]? =some x/\jG σ k x.1 dk/\en.key=yX k dk/\jG σ v x.2 dv/\en.val=yX v dv:=by
  intro i en hi;have hlt:i<m.length:=by rw [<- hs];exact (zW.1 hi).1
  obtain ⟨en',dk,dv,e1,e2,e3,e4,e5⟩:=hm i m[i] (zG hlt);rw [hi] at e1;cases e1;exact ⟨_,dk,dv,zG hlt,e2,e3,e4,e5⟩
 rcases hk.find w hq es.toList (fun e he=>by
  obtain ⟨i,hi,rfl⟩:=yG.1 he;obtain ⟨x,dk,dv,_,e2,e3,_⟩:=back i _ (by rw [<- zM];exact zG hi)
  exact ⟨σ,x.1,dk,e2,e3⟩) with ⟨h1,h2⟩|⟨j,en,h1,h2,h3⟩
 ·refine .inl ⟨h1,fun p hp e=> ?_⟩;obtain ⟨i,hi,rfl⟩:=yG.1 hp;obtain ⟨en,dk,dv,e1,e2,e3,_⟩:=hm i _ (zG hi);refine h2 en (List.mem_of_getElem? (by rw [zM];exact e1)) ?_;rw [e3];exact (hk.inj e2 hq).2 e
 ·rw [zM] at h2;obtain ⟨x,dk,dv,e1,e2,e3,e4,e5⟩:=back j en h2;rw [h3] at e3;have:=(hk.inj hq e2).1 e3;obtain ⟨x1,x2⟩:=x;simp only at this;subst this;exact .inr ⟨j,en,x2,dv,h1,h2,h3,e1,e4,e5⟩
theorem zEy {v:ETy} {dv:List Value} (hl:dv.length=v.size) (e:v.isAgg=true):yX v dv= .agg dv.toArray:=by
 cases v<;>first|rfl|(simp [ETy.isAgg] at e;done)|skip
 obtain rfl:dv=[]:=List.eq_nil_of_length_eq_zero hl;rfl
theorem zKc {v:ETy} {d:Value} (e:v.isAgg=false):yX v [d]=d:=by
 cases v<;>first|rfl|(simp [ETy.isAgg] at e;done)
theorem zEK {k:ETy} {a:AV} {v:Value} {m:List AS} (ha:y6 σ β a v) (hf:a.flat=some m) (hs:a.isAgg=k.isAgg) (hl:v.cells.toList.length=k.size):v=yX k v.cells.toList:=by
 cases a with
 | tup l=>cases hf
 | agg l =>
   obtain ⟨ds,rfl,_⟩:=ha;have:k.isAgg=true:=hs.symm;show Value.agg ds.toArray=yX k ds.toArray.toList;rw [List.toList_toArray];replace hl:ds.length=k.size:=by simpa [Value.cells] using hl
   exact (zEy hl this).symm
 | s a =>
   have hk:k.isAgg=false:=hs.symm
   have hc:v.cells= #[v]:=by
    have:=zBC ha hf
    have hm:m=[a]:=by
     unfold AV.flat at hf;split at hf<;>first|contradiction|(cases hf;rename_i h;cases h;rfl)|(rename_i h;cases h)
    subst hm;have hx:y5 σ β a v:=ha;cases a with
    | int=>obtain ⟨rfl,_⟩:=hx;rfl
    | bool=>obtain rfl:=hx;rfl
    | val u=>obtain ⟨rfl,hu⟩:=hx;cases v<;>first|rfl|exact (hu _ rfl).elim
    | sl=>obtain ⟨a,cap,e,_⟩:=hx;obtain rfl:=(List.cons.inj e).1;rfl
    | mp=>obtain ⟨a,e,_⟩:=hx;obtain rfl:=(List.cons.inj e).1;rfl
    | pt e o =>
      cases o with
      | none=>have hx:[v]=[.pointer none]:=hx;obtain rfl:=(List.cons.inj hx).1;rfl
      | some x=>obtain ⟨b,off,d,e,_⟩:=hx;obtain rfl:=(List.cons.inj e).1;rfl
    | ip=>obtain ⟨b,o,d,rfl,_⟩:=hx;rfl
    | ipi=>obtain ⟨b,o,d,rfl,_⟩:=hx;rfl
    | own id s n =>
      simp only [y5] at hx;cases hβ:β[id]? with
      | none=>simp [hβ] at hx
      | some q =>
        cases q with
        | none=>simp only [hβ] at hx;obtain ⟨rfl,_⟩:=hx;rfl
        | some p=>simp only [hβ] at hx;obtain ⟨_,_,rfl,_⟩:=hx;rfl
    | ptr=>obtain ⟨p,_,rfl,_⟩:=hx;rfl
    | pti=>obtain ⟨p,_,rfl,_⟩:=hx;rfl
    | omp=>obtain ⟨p,_,rfl,_⟩:=hx;rfl
    | arr=>obtain ⟨p,_,rfl,_⟩:=hx;rfl
    | clo=>obtain ⟨_,rfl,_⟩:=hx;rfl
    | nq=>obtain ⟨_,rfl,_⟩:=hx;rfl
    | junk=>simp [AV.flat] at hf
   rw [hc];cases k<;>first|rfl|(simp [ETy.isAgg] at hk)
theorem zBH {o:Option ETy} {e:ETy} (h:zOm o e=true):o=some e:=by
 unfold zOm at h;split at h
 ·rw [of_decide_eq_true h]
 ·cases h
theorem zSx (hT:zAA P T) (hO:zHM T) (hE:zGz T) (hM:zSE P T) (h:Mem σ β hp w) {t:TypeId} {x key:AV} {vx vk:Value} {commaOk:Bool} (hx:y6 σ β x vx) (hk:y6 σ β key vk) :
 Snd P σ β w (zGl T t hp x key commaOk) (Instr.lookup t vx vk commaOk):=by
 unfold zGl;split
 ·rename_i a kc kt u hkc hd;split
  ·rename_i ki ui mv hki hui hmv;split
   ·rename_i q hchk hdec;simp only [zC,beq_iff_eq] at hchk;obtain ⟨⟨⟨c1,c2⟩,c3⟩,c4⟩:=hchk;have c1:=zBH c1;have c2:=zBH c2;have hMO:=hM _ _ _ hd _ _ _ _ hki hui c1 c2;obtain ⟨r,rfl,hn,hnil,hat⟩:=zYB h hx hmv;have hkey:=ETy.dec_sound hdec (zBC hk hkc);have hkv:=zEK hk hkc c3 hkey.length;have hdesc:=hT.desc (w:=w) hd (by simp);obtain ⟨i,z,hi,_,_,hz,_⟩:=(hT _ _ hui).get;have hz':=hMO.zero i hi;rw [hz] at hz'
    have hzv:(zeroValue u).run P w= .ok z w:=by simp [zeroValue,typeInfo,hi,hz]
    -- the value that is found
    have fin: ∀ {y:mv.v.T} {dv:List Value} {ok:Bool},jG σ mv.v y dv->(jS mv.k mv.m q).getD mv.v.dflt=y->(jS mv.k mv.m q).isSome=ok->
     (Instr.lookup t (.map r) vk commaOk).run P w= .ok (if commaOk then .tuple #[yX mv.v dv,.bool ok] else yX mv.v dv) w->
     Snd P σ β w (match commaOk with
      | true=>some (none,none,.tup [part (zAE ui.desc) (mv.v.cells ((jS mv.k mv.m q).getD mv.v.dflt)) 0 ui.size,.s (.bool (jS mv.k mv.m q).isSome)])
      | false=>some (none,none,part (zAE ui.desc) (mv.v.cells ((jS mv.k mv.m q).getD mv.v.dflt)) 0 ui.size)) (Instr.lookup t (.map r) vk commaOk):=by
     intro y dv ok hy hg ho hrun;rw [hg,ho];have hl:=hy.length;have hsz:=(hE _ _ hui _ c2).2
     have hpart:y6 σ β (part (zAE ui.desc) (mv.v.cells y) 0 ui.size) (yX mv.v dv):=by
      have hce:=hy.cells (β:=β);refine zLf hce (by have:=hce.length;omega) (hO _ _ hui) (fun e=> ?_) (fun e=> ?_)
      ·rw [c4] at e;rw [List.drop_zero,List.take_of_length_le (by omega)];exact zEy hl e
      ·have h1:=hO _ _ hui e;rw [c4] at e;rw [List.drop_zero,List.take_of_length_le (by omega)];rw [h1] at hsz
       match dv,hl with
       | [d],_=>rw [zKc e]
       | [],hl=>simp at hl;omega
       | _::_::_,hl=>simp at hl;omega
     cases commaOk with
     | true=>exact Snd.mk trivial fun _=>⟨_,hrun,_,rfl,hpart,rfl,trivial⟩
     | false=>exact Snd.mk trivial fun _=>⟨_,hrun,hpart⟩
    cases r with
    | none =>
      have hnil:=hnil rfl;refine fin (y:=mv.v.dflt) (dv:=mv.v.zeroVals) (ok:=false) (zBI _) (by rw [hnil];rfl) (by rw [hnil];rfl) ?_;have hfind:=hMO.key.find w hkey [] (by simp);rw [<- hkv] at hfind
      have hfind:(Instr.findKey kt vk []).run P w= .ok none w:=by
       rcases hfind with ⟨h1,_⟩|⟨j,e,_,h2,_⟩
       ·exact h1
       ·simp at h2
      have hchk:=hMO.key.check w true hkey;rw [<- hkv] at hchk;simp only [Instr.lookup,Sem.run_bind,hdesc,Result.andThen_ok,Sem.run_pure];simp [hchk,hfind,hzv,Option.some.inj hz']
    | some b =>
      obtain ⟨es,clock,hb,hmat⟩:=hat b rfl;have hget:=MapKept.run_getObj_map (P:=P) hb;have hchk:=hMO.key.check w es.isEmpty hkey;have hf:=zEE (w:=w) hMO.key hmat hkey;rw [<- hkv] at hchk hf;rcases hf with ⟨h1,h2⟩|⟨j,en,y,dv,h1,h2,h3,h4,h5,h6⟩
      ·obtain ⟨g1,_⟩:=zCP h2;refine fin (y:=mv.v.dflt) (dv:=mv.v.zeroVals) (ok:=false) (zBI _) (by rw [g1];rfl) (by rw [g1];rfl) ?_;simp only [Instr.lookup,Sem.run_bind,hdesc,Result.andThen_ok,Sem.run_pure,hget];simp [hchk,h1,hzv,Option.some.inj hz']
      ·obtain ⟨g1,_⟩:=zEB hn h4;refine fin (y:=y) (dv:=dv) (ok:=true) h5 (by rw [g1];rfl) (by rw [g1];rfl) ?_;simp only [Instr.lookup,Sem.run_bind,hdesc,Result.andThen_ok,Sem.run_pure,hget];simp [hchk,h1,h6]
   ·exact Snd.none
  ·exact Snd.none
 ·exact Snd.none
theorem zSe (h:GG B σ β st tmps w) {st':St} {o:Oper} {ρ:Operand->Value} (hd:zBE o.dst tmps) {t:TypeId} (ho:o.op= .makeMap t none) {p q:Option Prop} (he:zGK T t st o.dst=some (p,q,st')) :
 Opt p/\(Opt q->zLi P B o ρ st' tmps w):=by
 unfold zGK at he;split at he
 ·split at he
  ·split at he
   ·rename_i ek e _ _;cases he;refine ⟨trivial,fun _=>⟨.map (some w.heap.size),w.alloc (.map #[] 0),σ,β++[some ⟨w.heap.size,0,0,0,0⟩],.inl ?_,?_⟩⟩
    ·simp [execOp,ho,Instr.makeMap]
    ·have hlast:(β++[some ⟨w.heap.size,0,0,0,0⟩])[st.next]? =some (some (⟨w.heap.size,0,0,0,0⟩:Bk)):=by rw [<- h.len];simp
     refine h.fresh hd (fun k hk=>alloc_old w _ k hk) (Below.alloc' w _ h.bel.size) (fun p hp=>by cases hp;rfl) ⟨by simp,_,#[],0,hlast,(MapKept.heap_alloc w _).1,rfl,fun i x hx=>by simp at hx,⟨by simp,by simp⟩,by simp [MapKept.Stamped]⟩ ⟨_,hlast,rfl,rfl⟩
   ·rename_i ek ev _ _ _;cases he;refine ⟨trivial,fun _=>⟨.map (some w.heap.size),w.alloc (.map #[] 0),σ,β++[some ⟨w.heap.size,0,0,0,0⟩],.inl ?_,?_⟩⟩
    ·simp [execOp,ho,Instr.makeMap]
    ·have hlast:(β++[some ⟨w.heap.size,0,0,0,0⟩])[st.next]? =some (some (⟨w.heap.size,0,0,0,0⟩:Bk)):=by rw [<- h.len];simp
     refine h.fresh hd (fun k hk=>alloc_old w _ k hk) (Below.alloc' w _ h.bel.size) (fun p hp=>by cases hp;rfl) ⟨by simp,_,#[],0,hlast,(MapKept.heap_alloc w _).1,⟨rfl,MapKept.stamped_empty 0⟩,fun i x hx=>by simp at hx⟩ ⟨_,hlast,rfl,rfl⟩
   ·cases he
  ·cases he
 ·cases he
theorem zEv {k:ETy} {V:Type} {m:List (k.T×V)} {q:k.T} (v:V) (hn:(m.map (·.1)).Nodup):((zAB k m q v).map (·.1)).Nodup:=by
 by_cases h: ∃ y,(q,y)∈m
 ·obtain ⟨y,hy⟩:=h;obtain ⟨j,hj,e⟩:=yG.1 hy;rw [(zEB hn (by rw [zG hj,e])).2 v,List.map_set]
  have:(m.map (·.1)).set j q=m.map (·.1):=by
   apply List.ext_getElem (by simp);intro i h1 h2;rw [List.getElem_set];split
   ·rename_i e';subst e';simp [e]
   ·rfl
  rw [this];exact hn
 ·have hne: ∀ p∈m,p.1≠q:=fun p hp e=>h ⟨p.2,by rw [<- e];exact hp⟩;rw [(zCP hne).2 v,List.map_append];simp only [List.map_cons,List.map_nil];rw [List.nodup_append];refine ⟨hn,by simp,fun a ha b hb e=> ?_⟩;obtain ⟨p,hp,rfl⟩:=yC.1 ha;simp only [zF] at hb;exact hne p hp (e.trans hb)
theorem zOF (hT:zAA P T) (hM:zSE P T) (h:GG B σ β st tmps w) {st':St} {o:Oper} {ρ:Operand->Value} (hd:zBE o.dst tmps) {t:TypeId} {x y z:Operand} (ho:o.op= .mapUpdate t x y z\/o.op= .insert t x y z) {a b c:AV} {p q:Option Prop}
 (ha:y6 σ β a (ρ x)) (hb:y6 σ β b (ρ y)) (hc:y6 σ β c (ρ z)) (he:zEw T t a b c st o.dst=some (p,q,st')):Opt p/\(Opt q->zLi P B o ρ st' tmps w):=by
 unfold zEw at he;split at he
 ·rename_i id kc vc kt u hkc hvc hdc;split at he
  ·rename_i ki ui k e m hki hui hid;split at he
   ·rename_i kk vv hchk hdk hdv;cases he;refine ⟨trivial,fun _=> ?_⟩;simp only [zC,beq_iff_eq] at hchk;obtain ⟨⟨⟨c1,c2⟩,c3⟩,c4⟩:=hchk;have c1:=zBH c1;have c2:=zBH c2;have hMO:=hM _ _ _ hdc _ _ _ _ hki hui c1 c2;have hkey:=ETy.dec_sound hdk (zBC hb hkc);have hval:=ETy.dec_sound hdv (zBC hc hvc);have hkv:=zEK hb hkc c3 hkey.length;have hvv:=zEK hc hvc c4 hval.length;obtain ⟨hn,pl,es,clock,q1,q2,q3⟩:=h.mem.ob _ _ hid
    obtain ⟨pl',q1',hx⟩:=ha;rw [q1] at q1';cases q1';have hmat:MapAt σ k e m es:=⟨q3.1.1,q3.2⟩;have hS:MapKept.Stamped es clock:=q3.1.2;have hdesc:=hT.desc (w:=w) hdc (by simp);have runGet:=MapKept.run_getObj_map (P:=P) q2;have hck:=hMO.key.check w false hkey;have hf:=zEE (w:=w) hMO.key hmat hkey;have hstay:=hMO.key.stays w hkey;have runSet: ∀ o',(setObj pl.b o').run P w= .ok () {w with heap:=w.heap.setIfInBounds pl.b o'} :=fun o'=>MapKept.run_setObj_map o' q2
    rw [<- hkv] at hck hf hstay;have hsep:=h.sep _ _ _ hid q1
    have fin: ∀ {es':Array MapEntry} {clock':Nat},(Instr.mapUpdate t (ρ x) (ρ y) (ρ z)).run P w= .ok () {w with heap:=w.heap.setIfInBounds pl.b (.map es' clock')}->MapAt σ k e (zAB k m kk vv) es'->MapKept.Stamped es' clock'->
     zLi P B o ρ (({st with hp:=zA6 st.hp id (.map k e (zAB k m kk vv))} :St).put o.dst .undef) tmps w:=by
     intro es' clock' hrun hm' hS';obtain ⟨g1,g2⟩:=MapKept.heap_set (o':= .map es' clock') q2;have hob:zAf σ β {w with heap:=w.heap.setIfInBounds pl.b (.map es' clock')} id (.map k e (zAB k m kk vv)):=⟨zEv vv hn,pl,es',clock',q1,g1,⟨hm'.1,hS'⟩,hm'.2⟩;have hbl:Below B.w.heap.size w {w with heap:=w.heap.setIfInBounds pl.b (.map es' clock')} :=⟨⟨rfl,rfl,rfl,by simp,fun k hk=>g2 k (by have:=hsep.2.1;omega)⟩,zI _⟩
     exact ⟨undef,_,σ,β,.inr ⟨by rcases ho with ho|ho<;>simp [execOp,ho,hrun],rfl⟩,(h.turn hid q1 (fun k hk=>g2 k hk) hbl hob).put hd y6.undef⟩
    obtain ⟨hs,hmat'⟩:=hmat;rcases hf with ⟨h1,h2⟩|⟨j,en,y',dv,h1,h2,h3,h4,h5,h6⟩
    ·refine fin (es':=es.push {key:=ρ y,val:=ρ z,born:=clock}) (clock':=clock+1) ?_ ?_ (MapKept.stamped_push hS fun en hen he=> ?_)
     ·simp only [hx,Instr.mapUpdate,Sem.run_bind,hdesc,Result.andThen_ok,runGet,hck,h1];exact runSet _
     ·rw [(zCP h2).2 vv];refine ⟨by simp [hs],fun i x hi=> ?_⟩;rcases Nat.lt_or_ge i m.length with hlt|hge
      ·rw [List.getElem?_append_left hlt] at hi;obtain ⟨en,dk,dv,e1,r⟩:=hmat' i x hi;exact ⟨en,dk,dv,by rw [Array.getElem?_push,if_neg (by omega)];exact e1,r⟩
      ·rw [List.getElem?_append_right hge] at hi
       have:i=m.length:=by
        have:=(zK.1 hi).1;simp at this;omega
       subst this;simp only [Nat.sub_self,List.getElem?_cons_zero,Option.some.injEq] at hi;subst hi;exact ⟨_,_,_,by rw [Array.getElem?_push,if_pos hs.symm],hkey,hkv,hval,hvv⟩
     ·obtain ⟨i,hi,rfl⟩:=yG.1 hen;have hi':i<m.length:=by rw [<- hs];simpa using hi
      obtain ⟨en',dk',dv',e1,e2,e3,_⟩:=hmat' i _ (zG hi');have:es.toList[i]? =some en':=by rw [zM];exact e1
      rw [zG hi] at this;cases this;rw [he,hkv] at e3;exact h2 _ (yQ hi') ((hMO.key.inj hkey e2).1 e3).symm
    ·have hkeep:((es[j]?).map (·.key)).getD (ρ y)=ρ y:=by rw [h2];exact h3
     refine fin (es':=es.modify j fun e=> {e with key:=ρ y,val:=ρ z}) (clock':=clock) ?_ ?_ (MapKept.stamped_modify hS j _ (fun _ _=>rfl) fun e0 _ he=>by rw [h2] at he;cases he;exact h3.symm)
     ·simp only [hx,Instr.mapUpdate,Sem.run_bind,hdesc,Result.andThen_ok,runGet,hck,h1,hkeep,hstay];exact runSet _
     ·rw [(zEB hn h4).2 vv];refine ⟨by simp [hs],fun i x hi=> ?_⟩;rw [Array.getElem?_modify];rw [List.getElem?_set] at hi;split
      ·rename_i e';subst e';simp only [if_true] at hi;split at hi
       ·cases hi;exact ⟨_,_,_,by rw [h2];rfl,hkey,hkv,hval,hvv⟩
       ·cases hi
      ·rename_i e';rw [if_neg e'] at hi;exact hmat' i x hi
   ·cases he
  ·cases he
 ·cases he
end
end Go.Vm
/- Calls that hand rows over to the caller. -/
namespace Go.Vm
open Go.RowKit
def zBs (σ:Sig) (base:Nat) (w:World):List Ob->yR->Prop
 | [],[]=>True
 | ob::r,q::s=>(∃ e u xs,ob= .row e u xs)/\zAf σ [q] w 0 ob/\(∀ p,q=some p->σ p.b=none/\base<=p.b/\∀ q'∈s,∀ p',q'=some p'->p'.b≠p.b)/\zBs σ base w r s
 | _,_=>False
def zCv (P:Program) (f:FuncId) (args:List AV) (r:zKQ):Prop :=
 ∀ (σ:Sig) (vals:List Value) (w:World),Ag σ w->jH σ [] args vals->
   Opt r.1/\(Opt r.2.1->Calls P f vals.toArray w fun e w'=> ∃ v σ' β',e= .returned v/\σ.le σ'/\Ag σ' w'/\
    (∀ b,b<w.heap.size->σ' b=σ b)/\y6 σ' β' r.2.2.1 v/\zBs σ' w.heap.size w' r.2.2.2 β'/\Below w.heap.size w w')
def zJM (P:Program) (f:FuncId) (h:List AV->St->(AV->St->Prop)->Prop):Prop :=
 ∀ (B:Base) (σ:Sig) (β:yR) (st:St) (tmps:Array Value) (w:World) (args:List AV) (vals:List Value) (K:AV->St->Prop),GG B σ β st tmps w->jH σ β args vals->h args st K->
   Calls P f vals.toArray w fun e w'=> ∃ v av st' σ' β',e= .returned v/\K av st'/\GG B σ' β' st' tmps w'/\y6 σ' β' av v
structure z5B (P:Program) (T:Tab):Prop where
 ok: ∀ f c,zFP T.fr f=some (.res c)->∀ args r,c args=some r->zCv P f args r
 run: ∀ f h,zFP T.fr f=some (.run h)->zJM P f h
 fn : ∀ f c, zFP T.fr f = some c → ∃ fn, P.funcs[f]? = some fn ∧ (fn.name == "runtime.NumGoroutine") = false ∧ fn.body.isNone = false
section
variable {P:Program} {B:Base} {w:World} {σ:Sig} {β:yR} {st:St} {tmps:Array Value} {T:Tab} {hp:jJ}
theorem zAf.move {γ:yR} {i j:Nat} {e:ETy} {u:TypeId} {xs:List e.T} (h:zAf σ β w i (.row e u xs)) (he:β[i]? =γ[j]?):zAf σ γ w j (.row e u xs):=by
 obtain ⟨h0,h⟩:=h;refine ⟨h0,?_⟩;rw [<- he];exact h
theorem GG.pushOne (h:GG B σ β st tmps w) {e:ETy} {u:TypeId} {xs:List e.T} {q:Option Bk} (ho:zAf σ [q] w 0 (.row e u xs))
 (hs: ∀ p,q=some p->σ p.b=none/\B.w.heap.size<=p.b/\∀ id ob p',hget st.hp id=some ob->β[id]? =some (some p')->p'.b≠p.b) :
 GG B σ (β++[q]) {st with hp:=(st.next,.row e u xs)::st.hp,next:=st.next+1} tmps w:=by
 have hlast:(β++[q])[st.next]? =some q:=by rw [<- h.len];simp
 have hold: ∀ {id:Nat},id<st.next->(β++[q])[id]? =β[id]? :=fun hi=>by rw [List.getElem?_append_left];rw [h.len];exact hi
 refine ⟨⟨h.mem.ag,fun id ob' hi=> ?_⟩,fun t=>(h.env t).more q,by simp [h.len],fun id ob' p hi hp=> ?_,h.bel,h.grew⟩
 ·simp only [yL] at hi;split at hi
  ·rename_i e;subst e;cases hi;exact ho.move (by rw [hlast];rfl)
  ·exact (h.mem.ob _ _ hi).keep q (fun p hp=>rfl) fun _ _ _=>rfl
 ·simp only [yL] at hi;split at hi
  ·rename_i e;subst e;rw [hlast] at hp;have hq:=Option.some.inj hp;obtain ⟨s1,s2,s3⟩:=hs p hq;refine ⟨s1,s2,fun id' ob'' p' hne hi' hp'=> ?_⟩;simp only [yL] at hi';rw [if_neg (Ne.symm hne)] at hi';have hlt:=h.id_lt hi';rw [hold hlt] at hp';exact s3 _ _ _ hi' hp'
  ·rename_i hne;have hlt:=h.id_lt hi;rw [hold hlt] at hp;obtain ⟨s1,s2,s3⟩:=h.sep _ _ _ hi hp;refine ⟨s1,s2,fun id' ob'' p' hne' hi' hp'=> ?_⟩;simp only [yL] at hi';split at hi'
   ·rename_i e;subst e;rw [hlast] at hp';exact fun e=>(hs p' (Option.some.inj hp')).2.2 _ _ _ hi hp e.symm
   ·have hlt':=h.id_lt hi';rw [hold hlt'] at hp';exact s3 _ _ _ hne' hi' hp'
theorem GG.push {base:Nat} (hb:B.w.heap.size<=base): ∀ {obs:List Ob} {qs:yR} {st:St} {β:yR},GG B σ β st tmps w->zBs σ base w obs qs->
 (∀ id ob p,hget st.hp id=some ob->β[id]? =some (some p)->∀ q∈qs,∀ p',q=some p'->p.b≠p'.b)->GG B σ (β++qs) (zIn st obs) tmps w
 | [],[],st,β,h,_,_=>by simpa [zIn] using h
 | ob::r,q::s,st,β,h,hf,hs=>by
   obtain ⟨⟨e,u,xs,rfl⟩,h1,h2,h3⟩:=hf;have g:=h.pushOne h1 fun p hp=>⟨(h2 p hp).1,Nat.le_trans hb (h2 p hp).2.1,fun id ob p' hi hp'=>hs id ob p' hi hp' q (by simp) p hp⟩;have hlast:(β++[q])[st.next]? =some q:=by rw [<- h.len];simp
   have:=GG.push hb g h3 fun id ob p hi hp q' hq' p' hp'=>by
    simp only [yL] at hi;split at hi
    ·rename_i e;subst e;rw [hlast] at hp;exact fun e=>(h2 p (Option.some.inj hp)).2.2 q' hq' p' hp' e.symm
    ·have hlt:=h.id_lt hi;rw [List.getElem?_append_left (by rw [h.len];exact hlt)] at hp;exact hs id ob p hi hp q' (by simp [hq']) p' hp'
   simpa [zIn] using this
 | [],_::_,_,_,_,hf,_=>hf.elim
 | _::_,[],_,_,_,hf,_=>hf.elim
theorem y5.shift {γ:yR} {a:AS} {v:Value} (h:y5 σ γ a v):y5 σ (β++γ) (zM8 β.length a) v:=by
 have key: ∀ i,(β++γ)[β.length+i]? =γ[i]? :=fun i=>by rw [List.getElem?_append_right (by omega),Nat.add_sub_cancel_left]
 cases a with
 | own i s n=>simp only [y5,zM8] at h ⊢;rw [key];exact h
 | ptr i j k=>obtain ⟨p,e,r⟩:=h;exact ⟨p,(key i).trans e,r⟩
 | pti i j k=>obtain ⟨p,e,r⟩:=h;exact ⟨p,(key i).trans e,r⟩
 | omp i=>obtain ⟨p,e,r⟩:=h;exact ⟨p,(key i).trans e,r⟩
 | arr i n=>obtain ⟨p,e,r⟩:=h;exact ⟨p,(key i).trans e,r⟩
 | _=>exact h
theorem jG.any {τ:Sig} : ∀ {e:ETy} {x:e.T} {ds:List Value},e.solid=true->jG σ e x ds->jG τ e x ds
 | .int _,_,_,_,h=>h
 | .bool,_,_,_,h=>h
 | .arr2,_,_,_,h=>h
 | .arr3,_,_,_,h=>h
 | .pair a b,_,_,hs,h=>by
   simp only [ETy.solid,zC] at hs;obtain ⟨d1,d2,rfl,h1,h2⟩:=h;exact ⟨d1,d2,rfl,h1.any hs.1,h2.any hs.2⟩
theorem zAf.any {τ:Sig} {i:Nat} {ob:Ob} (hs:ob.solid=true) (h:zAf σ β w i ob):zAf τ β w i ob:=by
 cases ob with
 | row e u xs =>
   obtain ⟨h0,h⟩:=h;refine ⟨h0,?_⟩;cases hβ:β[i]? with
   | none=>simp [hβ] at h
   | some q=>cases q with
     | none=>simpa [hβ] using h
     | some p =>
       simp only [hβ] at h ⊢;obtain ⟨h1,h2,h3,c,h4,h5,h6⟩:=h;exact ⟨h1,h2,h3,c,h4,h5,fun i x hx=>let ⟨d,e1,e2⟩:=h6 i x hx;⟨d,e1.any hs,e2⟩⟩
 | flat=>cases hs
 | map=>cases hs
 | gmap=>cases hs
 | grow=>cases hs
 | fr=>cases hs
theorem zBs.any {τ:Sig} {base:Nat} : ∀ {obs:List Ob} {qs:yR},obs.all Ob.solid=true->(∀ b,base<=b->τ b=none)->zBs σ base w obs qs->zBs τ base w obs qs
 | [],[],_,_,h=>h
 | ob::r,q::s,hs,hn,⟨h1,h2,h3,h4⟩=>by
   simp only [List.all_cons,zC] at hs;exact ⟨h1,h2.any hs.1,fun p hp=>⟨hn _ (h3 p hp).2.1,(h3 p hp).2⟩,zBs.any hs.2 hn h4⟩
 | [],_::_,_,_,h=>h.elim
 | _::_,[],_,_,h=>h.elim
theorem zBs.ge {base:Nat} : ∀ {obs:List Ob} {qs:yR},zBs σ base w obs qs->∀ q∈qs,∀ p,q=some p->base<=p.b
 | [],[],_,q,hq,_,_=>by cases hq
 | ob::r,q::s,⟨_,_,h3,h4⟩,q',hq',p,hp=>by
   cases zT.1 hq' with
   | inl e=>subst e;exact (h3 p hp).2.1
   | inr e=>exact zBs.ge h4 q' e p hp
 | [],_::_,h,_,_,_,_=>h.elim
 | _::_,[],h,_,_,_,_=>h.elim
theorem plainF_rep {τ:Sig} {a:AS} {v:Value} (hc:a.plainF=true) (ha:y5 σ β a v):y5 τ β a v:=by
 cases a<;>first|exact ha|(simp [AS.plainF,AS.plain] at hc)
theorem zGw {τ:Sig} : ∀ {l:List AS} {ds:List Value},l.all AS.plainF=true->jQ (y5 σ β) l ds->jQ (y5 τ β) l ds
 | [],[],_,_=>trivial
 | a::l,d::ds,h,hr=>by
   simp only [List.all_cons,zC] at h;exact ⟨plainF_rep h.1 hr.1,zGw h.2 hr.2⟩
 | [],_::_,_,hr=>hr.elim
 | _::_,[],_,hr=>hr.elim
theorem zKm {τ:Sig} : ∀ {l:List AV} {ds:List Value},(l.all fun v=>match v with
 | .s a=>a.plainF
 | .agg l=>l.all AS.plainF
 | .tup _=>false)=true->jH σ β l ds->jH τ β l ds
 | [],[],_,_=>trivial
 | a::l,d::ds,h,hr=>by
   simp only [List.all_cons,zC] at h;refine ⟨?_,zKm h.2 hr.2⟩;cases a with
   | s a=>exact plainF_rep h.1 hr.1
   | agg l=>obtain ⟨ds,e,r⟩:=hr.1;exact ⟨ds,e,zGw h.1 r⟩
   | tup l=>cases h.1
 | [],_::_,_,hr=>hr.elim
 | _::_,[],_,hr=>hr.elim
theorem AV.plainF_rep {τ:Sig} {a:AV} {v:Value} (hc:a.plainF=true) (ha:y6 σ β a v):y6 τ β a v:=by
 cases a with
 | s a=>exact Vm.plainF_rep hc ha
 | agg l=>obtain ⟨ds,e,r⟩:=ha;exact ⟨ds,e,zGw hc r⟩
 | tup l=>obtain ⟨vs,e,r⟩:=ha;exact ⟨vs,e,zKm hc r⟩
theorem zPG (hF:z5B P T) (h:GG B σ β st tmps w) {f:FuncId} {vs:List AV} {vals:List Value} (hv:jH σ β vs vals) {d:Option Tmp} (hd:zBE d tmps) {p q:Option Prop} {st':St}
 (hc:zQl T f vs st d=some (p,q,st')) :
 Opt p/\(Opt q->Calls P f vals.toArray w fun e w'=> ∃ u σ' β',e= .returned u/\GG B σ' β' st' (zHa tmps d u) w')/\
  ∃ fn, P.funcs[f]? = some fn ∧ (fn.name == "runtime.NumGoroutine") = false ∧ fn.body.isNone = false := by
 unfold zQl at hc;split at hc
 case h_2=>cases hc
 rename_i c hcf;split at hc
 case h_2=>cases hc
 rename_i p' q' v obs hcr;split at hc
 case h_2=>cases hc
 rename_i hcl;cases hc;rw [Bool.or_eq_true] at hcl;obtain ⟨fn,hfn⟩:=hF.fn _ _ hcf;have hok:=hF.ok _ _ hcf _ _ hcr
 have put: ∀ {σ':Sig} {β':yR} {st':St} {w':World} {u:Value},GG B σ' (β++β') st' tmps w'->y6 σ' β' v u->∃ σ'' β'',GG B σ'' β'' (st'.put d (v.mapAS (zM8 st.next))) (zHa tmps d u) w':=by
  intro σ' β' st' w' u hg hu;refine ⟨σ',β++β',hg.put hd ?_⟩;rw [<- h.len];exact hu.mapAS fun a v ha=>y5.shift ha
 rcases hcl with hcl|hpl
 ·have hview: ∀ {l:List AV} {ds:List Value},l.all AV.clear=true->jH σ β l ds->l.map (AV.viewT T st.hp)=l/\jH σ [] l ds:=by
   intro l
   induction l with
   | nil=>intro ds _ hr;cases ds with
     | nil=>exact ⟨rfl,trivial⟩
     | cons _ _=>exact hr.elim
   | cons a l ih=>intro ds hh hr;cases ds with
     | nil=>exact hr.elim
     | cons d ds =>
       simp only [List.all_cons,zC] at hh;obtain ⟨h1,h2⟩:=ih hh.2 hr.2;obtain ⟨h3,h4⟩:=AV.clear_repT (T:=T) (hp:=st.hp) hh.1 hr.1;exact ⟨by simp [h1,h3],h4,h2⟩
  obtain ⟨h1,h2⟩:=hview hcl hv;rw [h1] at hok;obtain ⟨h3,h4⟩:=hok σ vals w h.mem.ag h2;refine ⟨h3,fun hq=>(h4 hq).mono fun e w' ⟨u,σ',β',e1,e2,e3,e4,e5,e6,e7⟩=> ?_,fn,hfn⟩
  have hg:=(h.world e2 e3 e4 e7).push h.bel.size e6 fun id ob p hi hp q hq p' hp'=>by
   have:=(h.mem.ob _ _ hi).lt hp;have:=zBs.ge e6 q hq p' hp';omega
  obtain ⟨σ'',β'',hg⟩:=put hg e5;exact ⟨u,σ'',β'',e1,hg⟩
 ·rw [zC] at hpl
  have hview: ∀ {l:List AV} {ds:List Value},jH σ β l ds->jH (zDi w) [] (l.map (AV.viewT T st.hp)) ds:=by
   intro l
   induction l with
   | nil=>intro ds hr;cases ds with
     | nil=>trivial
     | cons _ _=>exact hr.elim
   | cons a l ih=>intro ds hr;cases ds with
     | nil=>exact hr.elim
     | cons d ds=>exact ⟨AV.viewT_rep h.mem hr.1,ih hr.2⟩
  obtain ⟨h3,h4⟩:=hok (zDi w) vals w zOq (hview hv);refine ⟨h3,fun hq=>(h4 hq).mono fun e w' ⟨u,σ',β',e1,e2,e3,e4,e5,e6,e7⟩=> ?_,fn,hfn⟩
  have hw:GG B σ β st tmps w':=h.world (Sig.le.refl _) (fun b o e=>by
   rw [e7.block _ (h.mem.ag.lt e)]
   exact h.mem.ag _ _ e) (fun _ _=>rfl) e7
  have hf:zBs σ w.heap.size w' obs β':=e6.any hpl.2 fun b hb=>by
   cases e:σ b with
   | none=>rfl
   | some o=>have:=h.mem.ag.lt e;omega
  have hg:=hw.push h.bel.size hf fun id ob p hi hp q hq p' hp'=>by
   have:=(h.mem.ob _ _ hi).lt hp;have:=zBs.ge e6 q hq p' hp';omega
  obtain ⟨σ'',β'',hg⟩:=put hg (AV.plainF_rep hpl.1 e5);exact ⟨u,σ'',β'',e1,hg⟩
end
end Go.Vm
