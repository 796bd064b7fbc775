/- A part of the proofs of the laws. -/
import Derived.Test.YtlhoihabllompaaGreatVmCode2
import Derived.KernelRfl
set_option linter.unusedSimpArgs false
set_option linter.unusedVariables false
set_option maxHeartbeats 8000000
set_option maxRecDepth 100000
/- A whole function: from what the evaluator asks to what its callers may lean on. -/
namespace Go.Vm
open Go.RowKit
def ETy.good:(e:ETy)->e.T->Prop
 | .int .i64,n=>yP n
 | .int k,n=>k.wrap n=n
 | .bool,_=>True
 | .arr2,x=>yP x.1/\yP x.2
 | .arr3,x=>yP x.1/\yP x.2.1/\yP x.2.2
 | .pair a b,x=>a.good x.1/\b.good x.2
 | .sl e,xs=>xs.length<=140737488355328/\∀ x∈xs,e.good x
 | .mp k _,m=> ∀ x∈m,k.good x.1
 | .pt e,o=> ∀ x,o=some x->e.good x
 | .unit,_=>True
 | .fnc,_=>True
def AS.good:AS->Prop
 | .int .i64 n=>yP n
 | .int k n=>k.wrap n=n
 | .sl e xs=>(ETy.sl e).good xs
 | .mp k v m=>(ETy.mp k v).good m
 | .pt e o=>(ETy.pt e).good o
 | .ip e x _=>e.good x
 | .ipi e x _=>e.good x
 | _=>True
def zQ3:List AS->Prop
 | []=>True
 | a::l=>a.good/\zQ3 l
def AV.good:AV->Prop
 | .s a=>a.good
 | .agg l=>zQ3 l
 | .tup _=>True
def zBl:List AV->Prop
 | []=>True
 | a::l=>a.good/\zBl l
section
variable {P:Program} {B:Base} {w:World} {σ:Sig} {β:yR} {st:St} {T:Tab} {a:Act} {hp:jJ}
theorem zFR {n:Int} (h:InK .i64 n):yP n:=InK.i64.1 h
theorem jG.good: ∀ {e:ETy} {x:e.T} {ds:List Value},jG σ e x ds->e.good x
 | .int k,n,ds,h=>by cases k<;>first|exact zFR h.2|exact h.2
 | .bool,_,_,_=>trivial
 | .arr2,x,_,h=>⟨zFR h.2.1,zFR h.2.2⟩
 | .arr3,x,_,h=>⟨zFR h.2.1,zFR h.2.2.1,zFR h.2.2.2⟩
 | .pair a b,x,_,h=>by obtain ⟨d1,d2,_,h1,h2⟩:=h;exact ⟨h1.good,h2.good⟩
 | .sl e,xs,_,h=>by
   obtain ⟨p,cap,_,hl,_,h⟩:=h;refine ⟨hl,fun x hx=> ?_⟩;obtain ⟨b,o,_,h⟩:=h (List.ne_nil_of_mem hx);obtain ⟨i,hi,rfl⟩:=yG.1 hx;obtain ⟨d,h1,_⟩:=h i _ (zG hi);exact h1.good
 | .mp k v,m,_,h=>by
   obtain ⟨p,_,hl,hn,h⟩:=h;refine fun x hx=> ?_;cases p with
   | none=>rw [hn rfl] at hx;cases hx
   | some b =>
     obtain ⟨es,clock,_,_,h⟩:=h b rfl;obtain ⟨i,hi,rfl⟩:=yG.1 hx;obtain ⟨en,dk,dv,_,h1,_⟩:=h i _ (zG hi);exact h1.good
 | .pt e,none,_,_=>fun x hx=>by cases hx
 | .pt e,some x,_,h=>fun y hy=>by
   cases hy;obtain ⟨b,off,d,_,h1,_⟩:=h;exact h1.good
 | .unit,_,_,_=>trivial
 | .fnc,_,_,_=>trivial
theorem y5.good {x:AS} {v:Value} (h:y5 σ β x v):x.good:=by
 cases x with
 | int k n=>obtain ⟨_,h⟩:=h;cases k<;>first|exact zFR h|exact h
 | sl e xs=>exact jG.good h
 | mp k v m=>exact jG.good h
 | pt e o=>exact jG.good h
 | ip e x k=>obtain ⟨b,o,d,_,h1,_⟩:=h;exact h1.good
 | ipi e x k=>obtain ⟨b,o,d,_,h1,_⟩:=h;exact h1.good
 | _=>trivial
theorem zOh: ∀ {l:List AS} {ds:List Value},jQ (y5 σ β) l ds->zQ3 l
 | [],_,_=>trivial
 | _::_,_::_,h=>⟨h.1.good,zOh h.2⟩
 | _::_,[],h=>h.elim
theorem y6.good {x:AV} {v:Value} (h:y6 σ β x v):x.good:=by
 cases x with
 | s a=>exact y5.good h
 | agg l=>obtain ⟨ds,_,r⟩:=h;exact zOh r
 | tup l=>trivial
theorem zCF: ∀ {l:List AV} {m:List Value},jH σ β l m->zBl l
 | [],_,_=>trivial
 | _::_,_::_,h=>⟨y6.good h.1,zCF h.2⟩
 | _::_,[],h=>h.elim
theorem zDz: ∀ {l:List AV} {m:List Value},jH σ β l m->l.length=m.length
 | [],[],_=>rfl
 | _::_,_::_,h=>by simp [zDz h.2]
 | [],_::_,h=>h.elim
 | _::_,[],h=>h.elim
theorem zGh {m:Nat} : ∀ {l:List AV} {vs:List Value} (i:Nat),jH σ β l vs->∀ t,y6 σ β (yZ (zHQ i l) t) (if t<i then undef else (vs++List.replicate m undef).getD (t - i) undef)
 | [],_,i,_,t=>trivial
 | x::l,[],i,h,t=>h.elim
 | x ::l,v::vs,i,h,t=>by
   simp only [zHQ];rw [qR];split
   ·rename_i e;subst e;simpa using h.1
   ·rename_i hne;have:=zGh (m:=m) (i+1) h.2 t
    by_cases h1:t<i
    ·rw [if_pos (by omega)] at this;rw [if_pos h1];exact this
    ·rw [if_neg (by omega)] at this;rw [if_neg h1];obtain ⟨j,rfl⟩: ∃ j,t=i+1+j:=⟨t - (i+1),by omega⟩;rw [show i+1+j - (i+1)=j by omega] at this;rw [show i+1+j - i=j+1 by omega];exact this
theorem zJA {vals:List Value} {args:List AV} {N:Nat} (hag:Ag σ w) (hv:jH σ [] args vals) (hN:args.length<=N) :
 GA ⟨w,σ,[]⟩ N (St.init args) {tmps:=vals.toArray++Array.replicate (N - vals.toArray.size) undef,defers:=[]} w:=by
 have hlen:=zDz hv;refine ⟨rfl,by simp;omega,σ,[],⟨hag,fun id ob hi=>by cases hi⟩,fun t=> ?_,rfl,fun id ob p hi=>(by cases hi),Below.refl _ _,Sig.le.refl _,fun b _=>rfl⟩;have:=zGh (m:=N - vals.length) 0 hv t;simp only [Nat.not_lt_zero,if_false,Nat.sub_zero] at this
 have e:((vals.toArray++Array.replicate (N - vals.toArray.size) undef).getD t undef)=(vals++List.replicate (N - vals.length) undef).getD t undef:=by
  rw [show vals.toArray++Array.replicate (N - vals.toArray.size) undef=(vals++List.replicate (N - vals.length) undef).toArray by simp];simp [zL,zR]
 show y6 σ [] (yZ (zHQ 0 args) t) ((vals.toArray++Array.replicate (N - vals.toArray.size) undef).getD t undef);rw [e];exact this
def zTc:List Value->Value
 | [v]=>v
 | vs=> .tuple vs.toArray
theorem zSG {Q:ResultVar->Value->Prop} {g:ResultVar->Sem Value} : ∀ {l:List ResultVar},(∀ r∈l,∃ v,(g r).run P w= .ok v w/\Q r v)->∃ vs,(l.mapM g).run P w= .ok vs w/\jQ Q l vs
 | [],_=>⟨[],by simp,trivial⟩
 | r::l,h=>by
   obtain ⟨v,h1,h2⟩:=h r (by simp);obtain ⟨vs,h3,h4⟩:=zSG (l:=l) fun r hr=>h r (by simp [hr]);refine ⟨v::vs,?_,h2,h4⟩;rw [List.mapM_cons];simp only [Sem.run_bind,h1,Result.andThen_ok,h3,Sem.run_pure]
theorem zB5 {fn:Func} {tmps:Array Value} {Q:ResultVar->Value->Prop}
 (h: ∀ r∈fn.results.toList,∃ v,(match r with|.tmp t=>(pure (tmps.getD t undef):Sem Value)|.cell a t=>do loadVar t (<- asAddr (tmps.getD a undef))).run P w= .ok v w/\Q r v) :
 ∃ vs,(results fn tmps).run P w= .ok (zTc vs) w/\jQ Q fn.results.toList vs:=by
 obtain ⟨vs,h1,h2⟩:=zSG h;refine ⟨vs,?_,h2⟩;have e:fn.results=fn.results.toList.toArray:=by simp
 unfold results;rw [e,List.mapM_toArray];simp only [Sem.run_bind,Sem.run_map];refine (congrArg (fun z=>(Result.andThen z fun (a:List Value) w'=>Result.ok a.toArray w').andThen fun (a:Array Value) w'=>Sem.run P (pure (if h:a.size=1 then a[0] else Value.tuple a)) w') h1).trans ?_
 match vs with
 | []=>rfl
 | [v]=>rfl
 | v::u::vs=>rfl
theorem zJu {τ:Sig} {fn:Func} {vs:List Value} (h:jQ (fun r v=>y6 τ [] (zGQ T st r) v) fn.results.toList vs):y6 τ [] (zKo T fn st) (zTc vs):=by
 unfold zKo;generalize fn.results.toList=l at h
 match l,vs,h with
 | [],[],_=>exact ⟨[],rfl,trivial⟩
 | [r],[v],h=>exact h.1
 | r ::s::l,v::u::vs,h =>
   refine ⟨_,rfl,?_⟩;rw [zCL]
   have: ∀ {l:List ResultVar} {vs:List Value},jQ (fun r v=>y6 τ [] (zGQ T st r) v) l vs->jQ (y6 τ []) (l.map (zGQ T st)) vs:=by
    intro l
    induction l with
    | nil=>intro vs h;cases vs with|nil=>trivial|cons=>exact h.elim
    | cons x l ih=>intro vs h;cases vs with|nil=>exact h.elim|cons v vs=>exact ⟨h.1,ih h.2⟩
   exact this h
theorem z94 (R:jM P T) {f:FuncId} {fn:Func} {c:Code} (hf:P.funcs[f]? =some fn) (hb:fn.body=some c) (hok:codeOk fn.ntmps c=true)
 {args:List AV} (hl:args.length<=fn.ntmps) {q:Option Prop} {u:AV} (h:zBl args->Opt q->zAG T fn args (fun v=>v=u)):zCn P f args (none,q,u):=by
 intro σ vals w hag hv;refine ⟨trivial,fun hq=> ?_⟩;have hga:=zJA (N:=fn.ntmps) hag hv hl;have hk:=h (zCF hv) hq;simp only [zAG,hb,St.forceAll_eq] at hk;refine (callsIn_of_wp (F:=Fence.wide) (n:=0) hf hb trivial ?_).calls (fun _ _ hd=>by cases hd);rw [<- FR.none];refine zA2 R c hok hga hk fun e st' a' w' hp h'=> ?_
 have fin:(match fn.results.toList.all (zGU T st') with|true=>zKo T fn st'=u|false=>False)->a'.defers=[]/\∃ v,(results fn a'.tmps).run P w'= .ok v w'/\∃ v' σ',(Ending.returned v)= .returned v'/\σ.le σ'/\Ag σ' w'/\
  (∀ b,b<w.heap.size->σ' b=σ b)/\y6 σ' [] u v'/\Below w.heap.size w w':=by
  intro hu;split at hu
  case h_2=>exact hu.elim
  rename_i hallok;obtain ⟨σ1,β1,hg⟩:=h'.gg
  have hview: ∀ {x:AV} {v:Value},y6 σ1 β1 x v->y6 (fun b=>if b<w.heap.size then σ b else w'.heap[b]?) [] (x.viewT T st'.hp) v:=fun {x v} hx=>by
   refine AV.viewT_rep_at (fun b o e=> ?_) (fun id ob p hi hp=> ?_) hg.mem hx
   ·split
    ·rename_i hlt;rw [hg.grew.2 b hlt] at e;exact ⟨o,e,.refl⟩
    ·exact hg.mem.ag _ _ e
   ·have:=(hg.sep _ _ _ hi hp).2.1;dsimp only at this;rw [if_neg (by omega)]
  obtain ⟨vs,hrun,hall⟩:=zB5 (P:=P) (w:=w') (fn:=fn) (tmps:=a'.tmps) (Q:=fun r v=>y6 (fun b=>if b<w.heap.size then σ b else w'.heap[b]?) [] (zGQ T st' r) v) (fun r hr=>by
   have hro:=zJ.1 hallok r hr;cases r with
   | tmp t=>exact ⟨_,rfl,hview (hg.env t)⟩
   | cell a t =>
     simp only [zGU] at hro;simp only [zGQ];have hx:=hg.env a;split at hro
     ·rename_i id i k hea;rw [hea] at hx;split at hro
      ·rename_i v hv;obtain ⟨p,_,hptr,_⟩:=hx;obtain ⟨_,hrun⟩:=zBf (w:=w') R.ty R.one hg.mem (t:=t) (hg.env a) (p:=none) (q:=none) (v:=v) (by rw [hea];exact hv);obtain ⟨val,h1,h2⟩:=hrun trivial;refine ⟨val,?_,hview h2⟩;rw [hptr] at h1 ⊢;rw [zBL] at h1;simp only [asAddr,Sem.run_bind,Sem.run_pure,Result.andThen_ok];exact h1
      ·cases hro
     ·cases hro)
  refine ⟨h'.defers,_,hrun,_,(fun b=>if b<w.heap.size then σ b else w'.heap[b]?),rfl,fun b o e=> ?_,fun b o e=> ?_,fun b hb=>by simp [hb],by rw [<- hu];exact zJu hall,hg.bel⟩
  ·have:b<w.heap.size:=hag.lt e;exact ⟨o,by simp [this,e],.refl⟩
  ·dsimp only at e;split at e
   ·rename_i hlt;rw [<- show σ1 b=σ b from hg.grew.2 b hlt] at e;exact hg.mem.ag _ _ e
   ·exact ⟨o,e,.refl⟩
 cases e with
 | normal=>simp only [post,AV.force_eq] at hp;exact fin hp
 | ret=>simp only [post,AV.force_eq] at hp;exact fin hp
 | _=>exact hp.elim
theorem zKn {i:Nat} : ∀ {l:List Nat} {n m:Nat},zQg i l n=some m->∃ j,m=n+j/\l[j]? =some i
 | [],_,_,h=>by cases h
 | k ::r,n,m,h=>by
   simp only [zQg] at h;split at h
   ·rename_i hb;cases h;exact ⟨0,rfl,by simp [zH hb]⟩
   ·obtain ⟨j,e1,e2⟩:=zKn h;exact ⟨j+1,by omega,by simpa using e2⟩
theorem y5.ren {ids:List Nat} {a:AS} {v:Value} (h:y5 σ β a v):y5 σ (ids.map fun i=>(β[i]?).getD none) (zTE ids a) v:=by
 cases a with
 | own i s n =>
   simp only [zTE];split
   ·rename_i m hm;obtain ⟨j,e1,e2⟩:=zKn hm;rw [zD] at e1;subst e1;simp only [y5] at h ⊢;rw [List.getElem?_map,e2];cases e:β[i]? with
    | none=>simp [e] at h
    | some q=>simpa [e] using h
   ·trivial
 | ptr=>trivial
 | pti=>trivial
 | omp=>trivial
 | arr=>trivial
 | _=>exact h
theorem zFc {base:Nat} (hm: ∀ id ob,hget st.hp id=some ob->zAf σ β w id ob)
 (hs: ∀ id ob p,hget st.hp id=some ob->β[id]? =some (some p)->σ p.b=none/\base<=p.b/\∀ id' ob' p',id'≠id->hget st.hp id'=some ob'->β[id']? =some (some p')->p'.b≠p.b) :
 ∀ (ids:List Nat),nodupB ids=true->zMZ st.hp ids=true->zBs σ base w (zJj st.hp ids) (ids.map fun i=>(β[i]?).getD none)
 | [],_,_=>trivial
 | i ::r,hn,hr=>by
   simp only [nodupB,zC,Bool.not_eq_true'] at hn;simp only [zMZ] at hr;split at hr
   case h_2=>cases hr
   rename_i o ho;rw [zC] at hr;have hob:=hm _ _ ho;obtain ⟨x,hx⟩:=hob.place;have e1:zJj st.hp (i::r)=o::zJj st.hp r:=by simp only [zJj,ho]
   rw [e1,List.map_cons]
   have hrows: ∀ (ids:List Nat),zMZ st.hp ids=true->∀ j∈ids,∃ o,hget st.hp j=some o:=by
    intro ids
    induction ids with
    | nil=>intro _ j hj;cases hj
    | cons k l ih =>
      intro hh j hj;simp only [zMZ] at hh;split at hh
      ·rename_i o' ho';rw [zC] at hh;rcases zT.1 hj with e|e
       ·subst e;exact ⟨_,ho'⟩
       ·exact ih hh.2 j e
      ·cases hh
   refine ⟨?_,?_,fun p hp=> ?_,zFc hm hs r hn.2 hr.2⟩
   ·cases o with
    | row e u xs=>exact ⟨e,u,xs,rfl⟩
    | flat=>cases hr.1
    | map=>cases hr.1
    | gmap=>cases hr.1
    | grow=>cases hr.1
    | fr=>cases hr.1
   ·cases o with
    | row e u xs=>exact hob.move (by rw [hx];rfl)
    | flat=>cases hr.1
    | map=>cases hr.1
    | gmap=>cases hr.1
    | grow=>cases hr.1
    | fr=>cases hr.1
   ·rw [hx] at hp;have hp:x=some p:=hp;subst hp;obtain ⟨s1,s2,s3⟩:=hs _ _ _ ho hx;refine ⟨s1,s2,fun q' hq' p' hp'=> ?_⟩;obtain ⟨j,hj,rfl⟩:=yC.1 hq';obtain ⟨o',ho'⟩:=hrows r hr.2 j hj
    have hne:j≠i:=by
     intro e;subst e;rw [zE7.2 hj] at hn;cases hn.1
    obtain ⟨y,hy⟩:=(hm _ _ ho').place;rw [hy] at hp';have hp':y=some p':=hp';subst hp';exact s3 _ _ _ hne ho' hy
theorem zG8 {τ:Sig} {γ:yR} {fn:Func} {vs:List Value} (h:jQ (fun r v=>y6 τ γ (zEW T st r) v) fn.results.toList vs):y6 τ γ (zAW T fn st) (zTc vs):=by
 unfold zAW;generalize fn.results.toList=l at h
 match l,vs,h with
 | [],[],_=>exact ⟨[],rfl,trivial⟩
 | [r],[v],h=>exact h.1
 | r ::s::l,v::u::vs,h =>
   refine ⟨_,rfl,?_⟩;rw [zCL]
   have: ∀ {l:List ResultVar} {vs:List Value},jQ (fun r v=>y6 τ γ (zEW T st r) v) l vs->jQ (y6 τ γ) (l.map (zEW T st)) vs:=by
    intro l
    induction l with
    | nil=>intro vs h;cases vs with|nil=>trivial|cons=>exact h.elim
    | cons x l ih=>intro vs h;cases vs with|nil=>exact h.elim|cons v vs=>exact ⟨h.1,ih h.2⟩
   exact this h
theorem z2z (R:jM P T) {f:FuncId} {fn:Func} {c:Code} (hf:P.funcs[f]? =some fn) (hb:fn.body=some c) (hok:codeOk fn.ntmps c=true)
 {args:List AV} (hl:args.length<=fn.ntmps) {q:Option Prop} {Rp:AV->List Ob->Prop} (h:zBl args->Opt q->zFB T fn args Rp) (σ:Sig) (vals:List Value) (w:World) (hag:Ag σ w) (hv:jH σ [] args vals) (hq:Opt q) :
   Calls P f vals.toArray w fun e w'=> ∃ u us v σ' β',Rp u us/\e= .returned v/\σ.le σ'/\Ag σ' w'/\
   (∀ b,b<w.heap.size->σ' b=σ b)/\y6 σ' β' u v/\zBs σ' w.heap.size w' us β'/\Below w.heap.size w w':=by
 have hga:=zJA (N:=fn.ntmps) hag hv hl;have hk:=h (zCF hv) hq;simp only [zFB,hb,St.forceAll_eq] at hk;refine (callsIn_of_wp (F:=Fence.wide) (n:=0) hf hb trivial ?_).calls (fun _ _ hd=>by cases hd);rw [<- FR.none];refine zA2 R c hok hga hk fun e st' a' w' hp h'=> ?_
 have fin:(match fn.results.toList.all (zGU T st')&&(nodupB (zAv (zAW T fn st').parts)&&zMZ st'.hp (zAv (zAW T fn st').parts)) with
  | true=>Rp ((zAW T fn st').mapAS (zTE (zAv (zAW T fn st').parts))) (zJj st'.hp (zAv (zAW T fn st').parts))
  | false=>False)->a'.defers=[]/\∃ v,(results fn a'.tmps).run P w'= .ok v w'/\∃ u us v' σ' β',Rp u us/\(Ending.returned v)= .returned v'/\σ.le σ'/\Ag σ' w'/\
  (∀ b,b<w.heap.size->σ' b=σ b)/\y6 σ' β' u v'/\zBs σ' w.heap.size w' us β'/\Below w.heap.size w w':=by
  intro hu;split at hu
  case h_2=>exact hu.elim
  rename_i hallok;rw [zC,zC] at hallok;obtain ⟨hallok,hnd,hrows⟩:=hallok;obtain ⟨σ1,β1,hg⟩:=h'.gg
  obtain ⟨vs,hrun,hall⟩:=zB5 (P:=P) (w:=w') (fn:=fn) (tmps:=a'.tmps) (Q:=fun r v=>y6 σ1 β1 (zEW T st' r) v) (fun r hr=>by
   have hro:=zJ.1 hallok r hr;cases r with
   | tmp t=>exact ⟨_,rfl,hg.env t⟩
   | cell a t =>
     simp only [zGU] at hro;simp only [zEW];have hx:=hg.env a;split at hro
     ·rename_i id i k hea;rw [hea] at hx;split at hro
      ·rename_i v hv;obtain ⟨p,_,hptr,_⟩:=hx;obtain ⟨_,hrun⟩:=zBf (w:=w') R.ty R.one hg.mem (t:=t) (hg.env a) (p:=none) (q:=none) (v:=v) (by rw [hea];exact hv);obtain ⟨val,h1,h2⟩:=hrun trivial;refine ⟨val,?_,h2⟩;rw [hptr] at h1 ⊢;rw [zBL] at h1;simp only [asAddr,Sem.run_bind,Sem.run_pure,Result.andThen_ok];exact h1
      ·cases hro
     ·cases hro)
  refine ⟨h'.defers,_,hrun,_,_,_,σ1,(zAv (zAW T fn st').parts).map fun i=>(β1[i]?).getD none,hu,rfl,hg.grew.1,hg.mem.ag,hg.grew.2,?_,?_,hg.bel⟩
  ·exact (zG8 hall).mapAS fun a v ha=>y5.ren (ids:=zAv (zAW T fn st').parts) ha
  ·exact zFc (w:=w') hg.mem.ob hg.sep _ hnd hrows
 cases e with
 | normal=>simp only [zS5,AV.force_eq] at hp;exact fin hp
 | ret=>simp only [zS5,AV.force_eq] at hp;exact fin hp
 | _=>exact hp.elim
theorem z6o (R:jM P T) {f:FuncId} {fn:Func} {c:Code} (hf:P.funcs[f]? =some fn) (hb:fn.body=some c) (hok:codeOk fn.ntmps c=true)
 {args:List AV} (hl:args.length<=fn.ntmps) {q:Option Prop} {u:AV} {us:List Ob} (h:zBl args->Opt q->zFB T fn args (fun v obs=>v=u/\obs=us)):zCv P f args (none,q,u,us):=by
 intro σ vals w hag hv;refine ⟨trivial,fun hq=>(z2z R hf hb hok hl h σ vals w hag hv hq).mono ?_⟩;rintro e w' ⟨u1,us1,v,σ',β',⟨rfl,rfl⟩,h2⟩;exact ⟨v,σ',β',h2⟩
end
end Go.Vm
/- Contracts by data, and the checks of a table. -/
namespace Go.Vm
def yJ (p:Prop):Prop:=p
theorem yJ.out {p:Prop} (h:yJ p):p:=h
theorem yJ.intro {p:Prop} (h:p):yJ p:=h
def y9 (a b:AV):Prop:=a=b
theorem y9.out {a b:AV} (h:y9 a b):a=b:=h
theorem y9.intro {a b:AV} (h:a=b):y9 a b:=h
def zId (a b:Prop):Prop:=a\/b
theorem zId.out {a b:Prop} (h:zId a b):a\/b:=h
theorem zId.intro {a b:Prop} (h:a\/b):zId a b:=h
def jL (a b:Ob):Prop:=a=b
theorem jL.out {a b:Ob} (h:jL a b):some a=some b:=congrArg some h
theorem jL.intro {a b:Ob} (h:a=b):jL a b:=h
def zBy (a b:List Ob):Prop:=a=b
theorem zBy.out {a b:List Ob} (h:zBy a b):a=b:=h
theorem zBy.intro {a b:List Ob} (h:a=b):zBy a b:=h
attribute [irreducible] yJ y9 zId jL zBy
theorem zBy.row {e:ETy} {u:TypeId} {m n:List e.T} (h:m=n):zBy [.row e u m] [.row e u n]:=zBy.intro (by rw [h])
theorem jL.row {e:ETy} {u:TypeId} {m n:List e.T} (h:m=n):jL (.row e u m) (.row e u n):=jL.intro (by rw [h])
theorem jL.map {k v:ETy} {m n:List (k.T×v.T)} (h:m=n):jL (.map k v m) (.map k v n):=jL.intro (by rw [h])
theorem jL.gmap {k e:ETy} {m n:List (k.T×List e.T)} (h:m=n):jL (.gmap k e m) (.gmap k e n):=jL.intro (by rw [h])
theorem jL.grow {e:ETy} {u:TypeId} {m n:List (List e.T)} (h:m=n):jL (.grow e u m) (.grow e u n):=jL.intro (by rw [h])
theorem y9.int {k:IntKind} {m n:Int} (h:m=n):y9 (.s (.int k m)) (.s (.int k n)):=y9.intro (by rw [h])
theorem y9.bool {m n:Bool} (h:m=n):y9 (.s (.bool m)) (.s (.bool n)):=y9.intro (by rw [h])
theorem y9.sl {e:ETy} {m n:List e.T} (h:m=n):y9 (.s (.sl e m)) (.s (.sl e n)):=y9.intro (by rw [h])
theorem zX {α β:Type _} (p:α×β):(p.1,p.2)=p:=rfl
theorem z7 {α:Sort _} {a:α} {motive:(b:α)->a=b->Sort _} (x:motive a rfl) (h:a=a): @Eq.rec α a motive x a h=x:=rfl
def ETy.av (e:ETy) (x:e.T):AV :=
 match e.isAgg with
 | true=> .agg (e.cells x)
 | false=>match e.cells x with
   | [a]=> .s a
   | _=> .junk
def ETy.of (e:ETy) (v:AV):Option e.T :=
 match v.isAgg==e.isAgg,v.flat with
 | true,some l=>e.dec l
 | _,_=>none
section
variable {P:Program} {T:Tab} {σ:Sig} {β:yR}
theorem ETy.cells_one: ∀ {e:ETy} {x:e.T},e.isAgg=false->∃ a,e.cells x=[a]
 | .int _,_,_=>⟨_,rfl⟩
 | .bool,_,_=>⟨_,rfl⟩
 | .sl _,_,_=>⟨_,rfl⟩
 | .mp _ _,_,_=>⟨_,rfl⟩
 | .pt _,_,_=>⟨_,rfl⟩
 | .fnc,_,_=>⟨_,rfl⟩
theorem ETy.av_rep {e:ETy} {x:e.T} {ds:List Value} (h:jG σ e x ds):y6 σ β (e.av x) (yX e ds):=by
 unfold ETy.av;cases hg:e.isAgg with
 | true=>exact ⟨ds,zEy h.length hg,h.cells⟩
 | false =>
   obtain ⟨a,ha⟩:=ETy.cells_one (x:=x) hg;have hc:=h.cells (β:=β);rw [ha] at hc ⊢;obtain ⟨d,rfl,hd⟩:=hc.len_one;rw [zKc hg];exact hd
theorem ETy.of_rep {e:ETy} {v:AV} {x:e.T} {val:Value} (h:e.of v=some x) (hv:y6 σ β v val):jG σ e x val.cells.toList/\y6 σ β (e.av x) val:=by
 unfold ETy.of at h;split at h
 ·rename_i hb hl;have h1:=ETy.dec_sound h (zBC hv hl);refine ⟨h1,?_⟩;have h2:=zEK hv hl (by simpa using hb) h1.length;have h3:=ETy.av_rep (β:=β) h1;rw [<- h2] at h3;exact h3
 ·cases h
theorem zCn.imp {f:FuncId} {args args':List AV} {r:Res} (h:zCn P f args' r) (hi: ∀ σ vals,jH σ [] args vals->jH σ [] args' vals):zCn P f args r :=
 fun σ vals w h1 h2=>h σ vals w h1 (hi σ vals h2)
def zEz {ρ:Type} (a:ETy) (f:a.T->Option ρ):List AV->Option ρ
 | [u]=>match a.of u with
   | some x=>f x
   | _=>none
 | _=>none
def zCr {ρ:Type} (a b:ETy) (f:a.T->b.T->Option ρ):List AV->Option ρ
 | [u,v]=>match a.of u,b.of v with
   | some x,some y=>f x y
   | _,_=>none
 | _=>none
def zOw {ρ:Type} (a b c:ETy) (f:a.T->b.T->c.T->Option ρ):List AV->Option ρ
 | [u,v,w]=>match a.of u,b.of v,c.of w with
   | some x,some y,some z=>f x y z
   | _,_,_=>none
 | _=>none
def z8j {ρ:Type} (a b c d:ETy) (f:a.T->b.T->c.T->d.T->Option ρ):List AV->Option ρ
 | [u,v,w,s]=>match a.of u,b.of v,c.of w,d.of s with
   | some x,some y,some z,some q=>f x y z q
   | _,_,_,_=>none
 | _=>none
theorem zA1 {a:ETy} {f:a.T->Option Res} {n:FuncId} (h: ∀ x r,f x=some r->zCn P n [a.av x] r): ∀ args r,zEz a f args=some r->zCn P n args r:=by
 intro args r e;unfold zEz at e;split at e
 ·split at e
  ·rename_i x hx;refine (h _ _ e).imp fun σ vals hv=> ?_
   match vals,hv with
   | [v],hv=>exact ⟨(ETy.of_rep hx hv.1).2,trivial⟩
  ·cases e
 ·cases e
theorem jD {a b:ETy} {f:a.T->b.T->Option Res} {n:FuncId} (h: ∀ x y r,f x y=some r->zCn P n [a.av x,b.av y] r): ∀ args r,zCr a b f args=some r->zCn P n args r:=by
 intro args r e;unfold zCr at e;split at e
 ·split at e
  ·rename_i x y hx hy;refine (h _ _ _ e).imp fun σ vals hv=> ?_
   match vals,hv with
   | [v,w],hv=>exact ⟨(ETy.of_rep hx hv.1).2,(ETy.of_rep hy hv.2.1).2,trivial⟩
  ·cases e
 ·cases e
theorem zDZ {a b c:ETy} {f:a.T->b.T->c.T->Option Res} {n:FuncId} (h: ∀ x y z r,f x y z=some r->zCn P n [a.av x,b.av y,c.av z] r): ∀ args r,zOw a b c f args=some r->zCn P n args r:=by
 intro args r e;unfold zOw at e;split at e
 ·split at e
  ·rename_i x y z hx hy hz;refine (h _ _ _ _ e).imp fun σ vals hv=> ?_
   match vals,hv with
   | [v,w,u],hv=>exact ⟨(ETy.of_rep hx hv.1).2,(ETy.of_rep hy hv.2.1).2,(ETy.of_rep hz hv.2.2.1).2,trivial⟩
  ·cases e
 ·cases e
theorem z5r {a b c d:ETy} {f:a.T->b.T->c.T->d.T->Option Res} {n:FuncId} (h: ∀ x y z s r,f x y z s=some r->zCn P n [a.av x,b.av y,c.av z,d.av s] r): ∀ args r,z8j a b c d f args=some r->zCn P n args r:=by
 intro args r e;unfold z8j at e;split at e
 ·split at e
  ·rename_i x y z s hx hy hz hs;refine (h _ _ _ _ _ e).imp fun σ vals hv=> ?_
   match vals,hv with
   | [v,w,u,t],hv=>exact ⟨(ETy.of_rep hx hv.1).2,(ETy.of_rep hy hv.2.1).2,(ETy.of_rep hz hv.2.2.1).2,(ETy.of_rep hs hv.2.2.2.1).2,trivial⟩
  ·cases e
 ·cases e
theorem zCv.imp {f:FuncId} {args args':List AV} {r:zKQ} (h:zCv P f args' r) (hi: ∀ σ vals,jH σ [] args vals->jH σ [] args' vals):zCv P f args r :=
 fun σ vals w h1 h2=>h σ vals w h1 (hi σ vals h2)
theorem z0y {ρ:Type} {Ok:List AV->ρ->Prop} (hi: ∀ args args' r,Ok args' r->(∀ σ vals,jH σ [] args vals->jH σ [] args' vals)->Ok args r) {a:ETy} {f:a.T->Option ρ} (h: ∀ x r,f x=some r->Ok [a.av x] r): ∀ args r,zEz a f args=some r->Ok args r:=by
 intro args r e;unfold zEz at e;split at e
 ·split at e
  ·rename_i x hx;refine hi _ _ _ (h _ _ e) fun σ vals hv=> ?_
   match vals,hv with
   | [v],hv=>exact ⟨(ETy.of_rep hx hv.1).2,trivial⟩
  ·cases e
 ·cases e
theorem zCC {a:ETy} {f:a.T->Option zKQ} {n:FuncId} (h: ∀ x r,f x=some r->zCv P n [a.av x] r): ∀ args r,zEz a f args=some r->zCv P n args r :=
 z0y (Ok:=zCv P n) (fun _ _ _ h hi=>zCv.imp h hi) h
theorem zZz {ρ:Type} {Ok:List AV->ρ->Prop} (hi: ∀ args args' r,Ok args' r->(∀ σ vals,jH σ [] args vals->jH σ [] args' vals)->Ok args r) {a b:ETy} {f:a.T->b.T->Option ρ} (h: ∀ x y r,f x y=some r->Ok [a.av x,b.av y] r): ∀ args r,zCr a b f args=some r->Ok args r:=by
 intro args r e;unfold zCr at e;split at e
 ·split at e
  ·rename_i x y hx hy;refine hi _ _ _ (h _ _ _ e) fun σ vals hv=> ?_
   match vals,hv with
   | [v,w],hv=>exact ⟨(ETy.of_rep hx hv.1).2,(ETy.of_rep hy hv.2.1).2,trivial⟩
  ·cases e
 ·cases e
theorem zSK {a b:ETy} {f:a.T->b.T->Option zKQ} {n:FuncId} (h: ∀ x y r,f x y=some r->zCv P n [a.av x,b.av y] r): ∀ args r,zCr a b f args=some r->zCv P n args r :=
 zZz (Ok:=zCv P n) (fun _ _ _ h hi=>zCv.imp h hi) h
theorem zZE {ρ:Type} {Ok:List AV->ρ->Prop} (hi: ∀ args args' r,Ok args' r->(∀ σ vals,jH σ [] args vals->jH σ [] args' vals)->Ok args r) {a b c:ETy} {f:a.T->b.T->c.T->Option ρ} (h: ∀ x y z r,f x y z=some r->Ok [a.av x,b.av y,c.av z] r): ∀ args r,zOw a b c f args=some r->Ok args r:=by
 intro args r e;unfold zOw at e;split at e
 ·split at e
  ·rename_i x y z hx hy hz;refine hi _ _ _ (h _ _ _ _ e) fun σ vals hv=> ?_
   match vals,hv with
   | [v,w,u],hv=>exact ⟨(ETy.of_rep hx hv.1).2,(ETy.of_rep hy hv.2.1).2,(ETy.of_rep hz hv.2.2.1).2,trivial⟩
  ·cases e
 ·cases e
theorem zRF {a b c:ETy} {f:a.T->b.T->c.T->Option zKQ} {n:FuncId} (h: ∀ x y z r,f x y z=some r->zCv P n [a.av x,b.av y,c.av z] r): ∀ args r,zOw a b c f args=some r->zCv P n args r :=
 zZE (Ok:=zCv P n) (fun _ _ _ h hi=>zCv.imp h hi) h
theorem zBi {α:Type} : ∀ {l:List (Nat×α)} {t:Nat} {x:α},zFP l t=some x->(t,x)∈l
 | [],_,_,h=>by cases h
 | (k,v)::r,t,x,h=>by
   simp only [zFP] at h;split at h
   ·rename_i e;cases h;rw [zH e];simp
   ·exact zQ _ (zBi h)
def zX2 (P:Program) (t:TypeId) (d:TypeDesc):Bool:=match d with
 | .struct fs => !P.stoodInHeld t && fs.toList.all fun f => f.name != "_"
 | _=>true
theorem zPb {t : TypeId} {d : TypeDesc} (h : zX2 P t d = true) : ∀ fs, d = .struct fs → P.stoodInHeld t = false ∧ ∀ f ∈ fs.toList, f.name ≠ "_" := by
 rintro fs rfl;simp only [zX2,zC,Bool.not_eq_true',zJ,bne_iff_ne,ne_eq] at h;exact h
def zJX (P:Program):List (Nat×TI)->Prop
 | []=>True
 | x::r=>zOv P x.1 x.2/\zJX P r
theorem zJX.cons {t:Nat} {ti:TI} {r:List (Nat×TI)} (h1:P.underlying t=some ti.desc) (h2:(P.info? t).map (fun i=>(i.size,i.bytes,i.zero.map fun z=>z.cells.toList))=some (ti.size,ti.bytes,some ti.zl))
 (h3:ti.zl.all zHS=true) (h4:ti.zl.length=ti.size) (h5:zX2 P t ti.desc=true) (h:zJX P r):zJX P ((t,ti)::r):=⟨⟨h1,h2,h3,h4,zPb h5⟩,h⟩
theorem zJX.mem: ∀ {l:List (Nat×TI)},zJX P l->∀ x∈l,zOv P x.1 x.2
 | _::_,h,x,hx=>by
   cases zT.1 hx with
   | inl e=>subst e;exact h.1
   | inr e=>exact zJX.mem h.2 x e
theorem z1F (h:zJX P T.ty):zAA P T:=fun _ _ e=>h.mem _ (zBi e)
theorem zYN (h:(T.ty.all fun x=>zAE x.2.desc|| x.2.size==1)=true):zHM T:=fun t ti e hn=>by
 have:=zJ.1 h _ (zBi e);simpa [hn] using this
def zIG:List (Nat×TI)->Prop
 | []=>True
 | x::r=>(∀ e,x.2.ety=some e->x.2.zl=e.zeroVals/\x.2.size=e.size)/\zIG r
theorem zIG.mem: ∀ {l:List (Nat×TI)},zIG l->∀ x∈l,∀ e,x.2.ety=some e->x.2.zl=e.zeroVals/\x.2.size=e.size
 | _::_,h,x,hx=>by
   cases zT.1 hx with
   | inl e=>subst e;exact h.1
   | inr e=>exact zIG.mem h.2 x e
theorem zYe (h:zIG T.ty):zGz T:=fun _ _ e=>h.mem _ (zBi e)
theorem zRt {ti:TI} {e':ETy} (h:ti.ety=some e') (hz:ti.zl=e'.zeroVals) (hs:ti.size=e'.size): ∀ e,ti.ety=some e->ti.zl=e.zeroVals/\ti.size=e.size:=fun e he=>by
 rw [h] at he;cases he;exact ⟨hz,hs⟩
theorem z1a {ti:TI} (h:ti.ety=none): ∀ e,ti.ety=some e->ti.zl=e.zeroVals/\ti.size=e.size:=fun e he=>by rw [h] at he;cases he
def zIW (P:Program) (T:Tab):List (Nat×TI)->Prop
 | []=>True
 | x::r=>(∀ kt u,x.2.desc= .map kt u->∀ ki ui k e,T.info kt=some ki->T.info u=some ui->ki.ety=some k->ui.ety=some e->zFC P kt u k e)/\zIW P T r
theorem zIW.mem: ∀ {l:List (Nat×TI)},zIW P T l->∀ x∈l,∀ kt u,x.2.desc= .map kt u->∀ ki ui k e,T.info kt=some ki->T.info u=some ui->ki.ety=some k->ui.ety=some e->zFC P kt u k e
 | _::_,h,x,hx=>by
   cases zT.1 hx with
   | inl e=>subst e;exact h.1
   | inr e=>exact zIW.mem h.2 x e
theorem zWn (h:zIW P T T.ty):zSE P T:=fun t kt u hd=>by
 unfold Tab.desc at hd;cases e:zFP T.ty t with
 | none=>simp [e] at hd
 | some ti=>simp only [e] at hd;exact h.mem _ (zBi e) kt u hd
def z6k:TypeDesc->Bool
 | .map _ _=>true
 | _=>false
theorem z4s {d:TypeDesc} (h:z6k d=false) {Q:Nat->Nat->Prop} : ∀ kt u,d= .map kt u->Q kt u:=fun kt u e=>by subst e;cases h
theorem zI2 {kt u:TypeId} {ki ui:TI} {k e:ETy} (h1:T.info kt=some ki) (h2:T.info u=some ui) (h3:ki.ety=some k) (h4:ui.ety=some e) (hm:zFC P kt u k e) {d:TypeDesc} (hd:d= .map kt u) :
 ∀ kt u,d= .map kt u->∀ ki ui k e,T.info kt=some ki->T.info u=some ui->ki.ety=some k->ui.ety=some e->zFC P kt u k e:=by
 intro kt' u' hd' ki' ui' k' e' g1 g2 g3 g4;rw [hd] at hd';cases hd';rw [h1] at g1;cases g1;rw [h2] at g2;cases g2;rw [h3] at g3;cases g3;rw [h4] at g4;cases g4;exact hm
def zON (P:Program):List (Nat×(List AV->Option Res))->Prop
 | []=>True
 | x :: r => ((∀ args r, x.2 args = some r → zCn P x.1 args r) ∧ ∃ fn, P.funcs[x.1]? = some fn ∧ (fn.name == "runtime.NumGoroutine") = false ∧ fn.body.isNone = false) ∧ zON P r
theorem zON.mem : ∀ {l : List (Nat × (List AV → Option Res))}, zON P l → ∀ x ∈ l, (∀ args r, x.2 args = some r → zCn P x.1 args r) ∧ ∃ fn, P.funcs[x.1]? = some fn ∧ (fn.name == "runtime.NumGoroutine") = false ∧ fn.body.isNone = false
 | _::_,h,x,hx=>by
   cases zT.1 hx with
   | inl e=>subst e;exact h.1
   | inr e=>exact zON.mem h.2 x e
theorem zZc (h:zON P T.fn):z4E P T:=⟨fun _ _ e=>(h.mem _ (zBi e)).1,fun _ _ e=>(h.mem _ (zBi e)).2⟩
def z9h (P:Program) (f:FuncId):FrE->Prop
 | .res c=> ∀ args r,c args=some r->zCv P f args r
 | .run h=>zJM P f h
def zQO (P:Program):List (Nat×FrE)->Prop
 | []=>True
 | x :: r => (z9h P x.1 x.2 ∧ ∃ fn, P.funcs[x.1]? = some fn ∧ (fn.name == "runtime.NumGoroutine") = false ∧ fn.body.isNone = false) ∧ zQO P r
theorem zQO.mem : ∀ {l : List (Nat × FrE)}, zQO P l → ∀ x ∈ l, z9h P x.1 x.2 ∧ ∃ fn, P.funcs[x.1]? = some fn ∧ (fn.name == "runtime.NumGoroutine") = false ∧ fn.body.isNone = false
 | _::_,h,x,hx=>by
   cases zT.1 hx with
   | inl e=>subst e;exact h.1
   | inr e=>exact zQO.mem h.2 x e
theorem z17 (h:zQO P T.fr):z5B P T:=⟨fun _ _ e=>(h.mem _ (zBi e)).1,fun _ _ e=>(h.mem _ (zBi e)).1,fun _ _ e=>(h.mem _ (zBi e)).2⟩
theorem zZi {ty:List (Nat×TI)} (h1:zJX P ty) (h2:(ty.all fun x=>zAE x.2.desc|| x.2.size==1)=true) (h3:zIG ty) (h4: ∀ fn fr,zIW P ⟨ty,fn,fr⟩ ty) (h5:P.follows .mixedOrders=true)
 {fn:List (Nat×(List AV->Option Res))} {fr:List (Nat×FrE)} (hf:zON P fn) (hr:zQO P fr):jM P ⟨ty,fn,fr⟩ :=
 ⟨z1F h1,zYN h2,zYe h3,zZc hf,z17 hr,h5,zWn (h4 fn fr)⟩
def zLg (fn:Func) (m:Nat):Bool :=
 match fn.body with
 | some c=>codeOk fn.ntmps c&&Nat.ble m fn.ntmps
 | _=>false
theorem qL (R:jM P T) {f:FuncId} {fn:Func} (hf:P.funcs[f]? =some fn) {args:List AV} (hchk:zLg fn args.length=true) {q:Option Prop} {u:AV} (h:zBl args->Opt q->zAG T fn args (fun v=>v=u)):zCn P f args (none,q,u):=by
 unfold zLg at hchk;split at hchk
 ·rename_i c hc;simp only [zC] at hchk;exact z94 R hf hc hchk.1 (zU hchk.2) h
 ·cases hchk
theorem zDk (R:jM P T) {f:FuncId} {fn:Func} (hf:P.funcs[f]? =some fn) {args:List AV} (hchk:zLg fn args.length=true) {q:Option Prop} {u:AV} {us:List Ob} (h:zBl args->Opt q->zFB T fn args (fun v obs=>v=u/\obs=us)):zCv P f args (none,q,u,us):=by
 unfold zLg at hchk;split at hchk
 ·rename_i c hc;simp only [zC] at hchk;exact z6o R hf hc hchk.1 (zU hchk.2) h
 ·cases hchk
def zDM (P : Program) (f : Nat) (c : List AV → Option zKQ) : Prop := (∀ args r, c args = some r → zCv P f args r) ∧ ∃ fn, P.funcs[f]? = some fn ∧ (fn.name == "runtime.NumGoroutine") = false ∧ fn.body.isNone = false
theorem z6 {α:Type _} (d w:α):List.take 1 (List.drop 0 ((List.replicate 1 d).set 0 w))=[w]:=rfl
theorem zS {α:Type _} (w:α):List.take 1 (List.drop 0 [w])=[w]:=rfl
theorem yE {α:Type _} (d w:α):(List.replicate 1 d).set 0 w=[w]:=rfl
theorem zZ {α:Type _} (l:List α):List.take l.length (List.drop 0 l)=l:=by rw [List.drop_zero,List.take_length]
theorem y9.own {i s m n:Nat} (h:m=n):y9 (.s (.own i s m)) (.s (.own i s n)):=y9.intro (by rw [h])
theorem y9.ownS {i s s' m n:Nat} (hs:s=s') (h:m=n):y9 (.s (.own i s m)) (.s (.own i s' n)):=y9.intro (by rw [hs,h])
end
def zHs:Code->Nat
 | .region k _ _=>k
 | .seq a _=>zHs a
 | .block _ c=>zHs c
 | .cond _ a _=>zHs a
 | _=>1000000
theorem qS {T:Tab} {c:Code} {K:Exit->St->Prop} {st:St} {Q:Prop} (k:Nat) (_:zHs c=k) (h:Or (∃ n,rounds (zA8 T c) K n st) Q):Or (∃ n,rounds (zA8 T c) K n st) Q:=h
theorem qN {q k:Prop} (h':k) (h:q:=by first|rfl|omega|(simp only [yP] at *;omega)):zMk q k:=zMk.intro h h'
theorem qH {q k:Prop} (h:yJ q) (h':k):zMk q k:=zMk.intro (yJ.out h) h'
theorem qG {p k:Prop} (h:p->k):zPL p k:=zPL.intro h
theorem qB {p q:Prop} (h:p) (h':q):z01 p q:=z01.intro h h'
theorem qa {a b:Bool} {x y:Prop} (h:BIf a (BIf b x y) y):BIf (a&&b) x y:=BIf.and h
theorem qo {a b:Bool} {x y:Prop} (h:BIf a x (BIf b x y)):BIf (a|| b) x y:=BIf.or h
theorem qe {α:Type} [BEq α] [LawfulBEq α] {a b:α} {x y:Prop} (h1:a=b->x) (h2:a≠b->y):BIf (a==b) x y:=BIf.eqi h1 h2
theorem qn {α:Type} [BEq α] [LawfulBEq α] {a b:α} {x y:Prop} (h1:a≠b->x) (h2:a=b->y):BIf (a != b) x y:=BIf.nei h1 h2
theorem qd {p x y:Prop} [Decidable p] (h1:p->x) (h2: ¬p->y):BIf (decide p) x y:=BIf.dec h1 h2
theorem qt {b:Bool} {x y:Prop} (h:BIf b y x):BIf (!b) x y:=BIf.nt h
theorem qE {a b:AV} {q:Prop} (h:y9 a b) (h':q):a=b/\q:=zA (y9.out h) h'
theorem qO {a b:Ob} {q:Prop} (h:jL a b) (h':q):some a=some b/\q:=zA (jL.out h) h'
theorem qK {b:Bool} {p:Prop} (h:b=true) (h':p):zHU b p:=zHU.intro h h'
theorem qs {a b:List Ob} (h:zBy a b):a=b:=zBy.out h
theorem qr {a b:Prop} (h:zId a b):a\/b:=zId.out h
theorem qq {a b:AV} (h:y9 a b):a=b:=y9.out h
theorem qh {p:Prop} (h:p):yJ p:=yJ.intro h
theorem qn1 {α:Type _} {a:α} :[a].length=1:=rfl
theorem qn2 (n:Nat):((n:Int)).toNat=n:=Int.toNat_natCast n
theorem qn3 {α:Type _} {a d:α} {l:List α} :(a::l).getD 0 d=a:=rfl
theorem qn4 {α:Type _} {a d:α} {l:List α} {n:Nat} :(a::l).getD (n+1) d=l.getD n d:=rfl
theorem gE {α:Type _} {l:List α} {i:Nat} (h:i<l.length):l[i]? =some l[i]:=zG h
theorem gdE {α:Type _} (l:List α) (i:Nat) (a:α):l.getD i a=(l[i]?).getD a:=zR
theorem qz1 {k:IntKind} {m n:Int} (h:m=n):y9 (.s (.int k m)) (.s (.int k n)):=y9.int h
theorem qz2 {m n:Bool} (h:m=n):y9 (.s (.bool m)) (.s (.bool n)):=y9.bool h
theorem qz3 {e:ETy} {m n:List e.T} (h:m=n):y9 (.s (.sl e m)) (.s (.sl e n)):=y9.sl h
theorem qz4 {i s m n:Nat} (h:m=n):y9 (.s (.own i s m)) (.s (.own i s n)):=y9.own h
theorem qz5 {i s s' m n:Nat} (hs:s=s') (h:m=n):y9 (.s (.own i s m)) (.s (.own i s' n)):=y9.ownS hs h
theorem qz6 {e:ETy} {u:TypeId} {m n:List e.T} (h:m=n):jL (.row e u m) (.row e u n):=jL.row h
theorem qz7 {k v:ETy} {m n:List (k.T×v.T)} (h:m=n):jL (.map k v m) (.map k v n):=jL.map h
theorem qz8 {k e:ETy} {m n:List (k.T×List e.T)} (h:m=n):jL (.gmap k e m) (.gmap k e n):=jL.gmap h
theorem qz9 {e:ETy} {u:TypeId} {m n:List (List e.T)} (h:m=n):jL (.grow e u m) (.grow e u n):=jL.grow h
theorem qz0 {e:ETy} {u:TypeId} {m n:List e.T} (h:m=n):zBy [.row e u m] [.row e u n]:=zBy.row h
theorem qi {b:Bool} {p q:Prop} (h1:b=true->p) (h2:b=false->q):BIf b p q:=BIf.intro h1 h2
theorem zaB {T:Tab} {c:Code} {K:Exit->St->Prop} {F:(X:Type)->Spec X->St->X->Prop} {st:St} (k:Nat) (_:zHs c=k) {X:Type} (S:Spec X) (x0:X) (h1:yJ (S.inv x0)) (h2:z4m st.env (S.head st x0).env) (h3:zVX st.hp (S.head st x0).hp) (h: ∀ x,S.inv x->F X S st x)
 (hn:S.nils=[]:=by exact rfl) (h4:(zDW (S.head st x0).next (S.head st x0).env&&zGR (S.head st x0).next (S.head st x0).hp&&Nat.ble (S.head st x0).next st.next)=true:=by exact rfl) :
 (∃ n,rounds (zA8 T c) K n st)\/(∃ (X:Type) (S:Spec X),zHc T (fun st=>(∃ x,S.inv x/\zOs st (S.head st x))/\∀ x,S.inv x->F X S st x) S.nils st) :=
 .inr ⟨X,S,by rw [hn];exact ⟨⟨x0,h1.out,h2,h3,h4⟩,h⟩⟩
theorem zaA {X:Type} {s st:St} {x:X} (S:Spec X) (y:X) (h:yJ (S.inv y)) (h1:z4m s.env (S.head st y).env) (h2:zVX s.hp (S.head st y).hp) (h3:yJ (S.mu y<S.mu x))
 (h4:(zDW (S.head st y).next (S.head st y).env&&zGR (S.head st y).next (S.head st y).hp&&Nat.ble (S.head st y).next s.next)=true:=by with_unfolding_all exact rfl): ∃ y,S.inv y/\zOs s (S.head st y)/\S.mu y<S.mu x :=
 ⟨y,h.out,⟨h1,h2,h4⟩,h3.out⟩
theorem qz {p q:Prop} (h:q) (e:q->p:=by first|exact qz1|exact qz2|exact qz3|exact qz4|exact qz6|exact qz7|exact qz8|exact qz9|exact qz0):p:=e h
end Go.Vm
