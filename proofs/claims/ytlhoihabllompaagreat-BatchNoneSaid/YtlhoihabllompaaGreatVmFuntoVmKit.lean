/- A part of the proofs of the laws. -/
import Derived.Test.YtlhoihabllompaaGreatVmCode2
import Derived.KernelRfl
set_option linter.unusedSimpArgs false
set_option linter.unusedVariables false
set_option maxHeartbeats 8000000
set_option maxRecDepth 100000
/- A whole function: from what the evaluator asks to what its callers may lean on. -/
namespace Go.Vm
open Go.RowKit
def ETy.good:(e:ETy)->e.T->Prop
 | .int .i64,n=>yO n
 | .int k,n=>k.wrap n=n
 | .bool,_=>True
 | .arr2,x=>yO x.1/\yO x.2
 | .arr3,x=>yO x.1/\yO x.2.1/\yO x.2.2
 | .pair a b,x=>a.good x.1/\b.good x.2
 | .sl e,xs=>xs.length<=140737488355328/\∀ x∈xs,e.good x
 | .mp k _,m=> ∀ x∈m,k.good x.1
 | .pt e,o=> ∀ x,o=some x->e.good x
 | .unit,_=>True
 | .fnc,_=>True
def AS.good:AS->Prop
 | .int .i64 n=>yO n
 | .int k n=>k.wrap n=n
 | .sl e xs=>(ETy.sl e).good xs
 | .mp k v m=>(ETy.mp k v).good m
 | .pt e o=>(ETy.pt e).good o
 | .ip e x _=>e.good x
 | .ipi e x _=>e.good x
 | _=>True
def zPw:List AS->Prop
 | []=>True
 | a::l=>a.good/\zPw l
def AV.good:AV->Prop
 | .s a=>a.good
 | .agg l=>zPw l
 | .tup _=>True
def zBj:List AV->Prop
 | []=>True
 | a::l=>a.good/\zBj l
section
variable {P:Program} {B:Base} {w:World} {σ:Sig} {β:yQ} {st:St} {T:Tab} {a:Act} {hp:jH}
theorem zFG {n:Int} (h:InK .i64 n):yO n:=InK.i64.1 h
theorem jE.good: ∀ {e:ETy} {x:e.T} {ds:List Value},jE σ e x ds->e.good x
 | .int k,n,ds,h=>by cases k<;>first|exact zFG h.2|exact h.2
 | .bool,_,_,_=>trivial
 | .arr2,x,_,h=>⟨zFG h.2.1,zFG h.2.2⟩
 | .arr3,x,_,h=>⟨zFG h.2.1,zFG h.2.2.1,zFG h.2.2.2⟩
 | .pair a b,x,_,h=>by obtain ⟨d1,d2,_,h1,h2⟩:=h;exact ⟨h1.good,h2.good⟩
 | .sl e,xs,_,h=>by
   obtain ⟨p,cap,_,hl,_,h⟩:=h;refine ⟨hl,fun x hx=> ?_⟩;obtain ⟨b,o,_,h⟩:=h (List.ne_nil_of_mem hx);obtain ⟨i,hi,rfl⟩:=yG.1 hx;obtain ⟨d,h1,_⟩:=h i _ (zG hi);exact h1.good
 | .mp k v,m,_,h=>by
   obtain ⟨p,_,hl,hn,h⟩:=h;refine fun x hx=> ?_;cases p with
   | none=>rw [hn rfl] at hx;cases hx
   | some b =>
     obtain ⟨es,clock,_,_,h⟩:=h b rfl;obtain ⟨i,hi,rfl⟩:=yG.1 hx;obtain ⟨en,dk,dv,_,h1,_⟩:=h i _ (zG hi);exact h1.good
 | .pt e,none,_,_=>fun x hx=>by cases hx
 | .pt e,some x,_,h=>fun y hy=>by
   cases hy;obtain ⟨b,off,d,_,h1,_⟩:=h;exact h1.good
 | .unit,_,_,_=>trivial
 | .fnc,_,_,_=>trivial
theorem y4.good {x:AS} {v:Value} (h:y4 σ β x v):x.good:=by
 cases x with
 | int k n=>obtain ⟨_,h⟩:=h;cases k<;>first|exact zFG h|exact h
 | sl e xs=>exact jE.good h
 | mp k v m=>exact jE.good h
 | pt e o=>exact jE.good h
 | ip e x k=>obtain ⟨b,o,d,_,h1,_⟩:=h;exact h1.good
 | ipi e x k=>obtain ⟨b,o,d,_,h1,_⟩:=h;exact h1.good
 | _=>trivial
theorem zMb: ∀ {l:List AS} {ds:List Value},jO (y4 σ β) l ds->zPw l
 | [],_,_=>trivial
 | _::_,_::_,h=>⟨h.1.good,zMb h.2⟩
 | _::_,[],h=>h.elim
theorem y5.good {x:AV} {v:Value} (h:y5 σ β x v):x.good:=by
 cases x with
 | s a=>exact y4.good h
 | agg l=>obtain ⟨ds,_,r⟩:=h;exact zMb r
 | tup l=>trivial
theorem zCE: ∀ {l:List AV} {m:List Value},jG σ β l m->zBj l
 | [],_,_=>trivial
 | _::_,_::_,h=>⟨y5.good h.1,zCE h.2⟩
 | _::_,[],h=>h.elim
theorem zDl: ∀ {l:List AV} {m:List Value},jG σ β l m->l.length=m.length
 | [],[],_=>rfl
 | _::_,_::_,h=>by simp [zDl h.2]
 | [],_::_,h=>h.elim
 | _::_,[],h=>h.elim
theorem zGU {m:Nat} : ∀ {l:List AV} {vs:List Value} (i:Nat),jG σ β l vs->∀ t,y5 σ β (yY (zHC i l) t) (if t<i then undef else (vs++List.replicate m undef).getD (t - i) undef)
 | [],_,i,_,t=>trivial
 | x::l,[],i,h,t=>h.elim
 | x ::l,v::vs,i,h,t=>by
   simp only [zHC];rw [qQ];split
   ·rename_i e;subst e;simpa using h.1
   ·rename_i hne;have:=zGU (m:=m) (i+1) h.2 t
    by_cases h1:t<i
    ·rw [if_pos (by omega)] at this;rw [if_pos h1];exact this
    ·rw [if_neg (by omega)] at this;rw [if_neg h1];obtain ⟨j,rfl⟩: ∃ j,t=i+1+j:=⟨t - (i+1),by omega⟩;rw [show i+1+j - (i+1)=j by omega] at this;rw [show i+1+j - i=j+1 by omega];exact this
theorem zIS {vals:List Value} {args:List AV} {N:Nat} (hag:Ag σ w) (hv:jG σ [] args vals) (hN:args.length<=N) :
 GA ⟨w,σ,[]⟩ N (St.init args) {tmps:=vals.toArray++Array.replicate (N - vals.toArray.size) undef,defers:=[]} w:=by
 have hlen:=zDl hv;refine ⟨rfl,by simp;omega,σ,[],⟨hag,fun id ob hi=>by cases hi⟩,fun t=> ?_,rfl,fun id ob p hi=>(by cases hi),Below.refl _ _,Sig.le.refl _,fun b _=>rfl⟩;have:=zGU (m:=N - vals.length) 0 hv t;simp only [Nat.not_lt_zero,if_false,Nat.sub_zero] at this
 have e:((vals.toArray++Array.replicate (N - vals.toArray.size) undef).getD t undef)=(vals++List.replicate (N - vals.length) undef).getD t undef:=by
  rw [show vals.toArray++Array.replicate (N - vals.toArray.size) undef=(vals++List.replicate (N - vals.length) undef).toArray by simp];simp [zL,zQ]
 show y5 σ [] (yY (zHC 0 args) t) ((vals.toArray++Array.replicate (N - vals.toArray.size) undef).getD t undef);rw [e];exact this
def zTe:List Value->Value
 | [v]=>v
 | vs=> .tuple vs.toArray
theorem zQW {Q:ResultVar->Value->Prop} {g:ResultVar->Sem Value} : ∀ {l:List ResultVar},(∀ r∈l,∃ v,(g r).run P w= .ok v w/\Q r v)->∃ vs,(l.mapM g).run P w= .ok vs w/\jO Q l vs
 | [],_=>⟨[],by simp,trivial⟩
 | r::l,h=>by
   obtain ⟨v,h1,h2⟩:=h r (by simp);obtain ⟨vs,h3,h4⟩:=zQW (l:=l) fun r hr=>h r (by simp [hr]);refine ⟨v::vs,?_,h2,h4⟩;rw [List.mapM_cons];simp only [Sem.run_bind,h1,Result.andThen_ok,h3,Sem.run_pure]
theorem zB9 {fn:Func} {tmps:Array Value} {Q:ResultVar->Value->Prop}
 (h: ∀ r∈fn.results.toList,∃ v,(match r with|.tmp t=>(pure (tmps.getD t undef):Sem Value)|.cell a t=>do loadVar t (<- asAddr (tmps.getD a undef))).run P w= .ok v w/\Q r v) :
 ∃ vs,(results fn tmps).run P w= .ok (zTe vs) w/\jO Q fn.results.toList vs:=by
 obtain ⟨vs,h1,h2⟩:=zQW h;refine ⟨vs,?_,h2⟩;have e:fn.results=fn.results.toList.toArray:=by simp
 unfold results;rw [e,List.mapM_toArray];simp only [Sem.run_bind,Sem.run_map];refine (congrArg (fun z=>(Result.andThen z fun (a:List Value) w'=>Result.ok a.toArray w').andThen fun (a:Array Value) w'=>Sem.run P (pure (if h:a.size=1 then a[0] else Value.tuple a)) w') h1).trans ?_
 match vs with
 | []=>rfl
 | [v]=>rfl
 | v::u::vs=>rfl
theorem zJx {τ:Sig} {fn:Func} {vs:List Value} (h:jO (fun r v=>y5 τ [] (zGO T st r) v) fn.results.toList vs):y5 τ [] (zKT T fn st) (zTe vs):=by
 unfold zKT;generalize fn.results.toList=l at h
 match l,vs,h with
 | [],[],_=>exact ⟨[],rfl,trivial⟩
 | [r],[v],h=>exact h.1
 | r ::s::l,v::u::vs,h =>
   refine ⟨_,rfl,?_⟩;rw [zCK]
   have: ∀ {l:List ResultVar} {vs:List Value},jO (fun r v=>y5 τ [] (zGO T st r) v) l vs->jO (y5 τ []) (l.map (zGO T st)) vs:=by
    intro l
    induction l with
    | nil=>intro vs h;cases vs with|nil=>trivial|cons=>exact h.elim
    | cons x l ih=>intro vs h;cases vs with|nil=>exact h.elim|cons v vs=>exact ⟨h.1,ih h.2⟩
   exact this h
theorem z85 (R:jK P T) {f:FuncId} {fn:Func} {c:Code} (hf:P.funcs[f]? =some fn) (hb:fn.body=some c) (hok:codeOk fn.ntmps c=true)
 {args:List AV} (hl:args.length<=fn.ntmps) {q:Option Prop} {u:AV} (h:zBj args->Opt q->zAG T fn args (fun v=>v=u)):zCr P f args (none,q,u):=by
 intro σ vals w hag hv;refine ⟨trivial,fun hq=> ?_⟩;have hga:=zIS (N:=fn.ntmps) hag hv hl;have hk:=h (zCE hv) hq;simp only [zAG,hb,St.forceAll_eq] at hk;refine (callsIn_of_wp (F:=Fence.wide) (n:=0) hf hb trivial ?_).calls (fun _ _ hd=>by cases hd);rw [<- FR.none];refine zAY R c hok hga hk fun e st' a' w' hp h'=> ?_
 have fin:(match fn.results.toList.all (zFs T st') with|true=>zKT T fn st'=u|false=>False)->a'.defers=[]/\∃ v,(results fn a'.tmps).run P w'= .ok v w'/\∃ v' σ',(Ending.returned v)= .returned v'/\σ.le σ'/\Ag σ' w'/\
  (∀ b,b<w.heap.size->σ' b=σ b)/\y5 σ' [] u v'/\Below w.heap.size w w':=by
  intro hu;split at hu
  case h_2=>exact hu.elim
  rename_i hallok;obtain ⟨σ1,β1,hg⟩:=h'.gg
  have hview: ∀ {x:AV} {v:Value},y5 σ1 β1 x v->y5 (fun b=>if b<w.heap.size then σ b else w'.heap[b]?) [] (x.viewT T st'.hp) v:=fun {x v} hx=>by
   refine AV.viewT_rep_at (fun b o e=> ?_) (fun id ob p hi hp=> ?_) hg.mem hx
   ·split
    ·rename_i hlt;rw [hg.grew.2 b hlt] at e;exact ⟨o,e,.refl⟩
    ·exact hg.mem.ag _ _ e
   ·have:=(hg.sep _ _ _ hi hp).2.1;dsimp only at this;rw [if_neg (by omega)]
  obtain ⟨vs,hrun,hall⟩:=zB9 (P:=P) (w:=w') (fn:=fn) (tmps:=a'.tmps) (Q:=fun r v=>y5 (fun b=>if b<w.heap.size then σ b else w'.heap[b]?) [] (zGO T st' r) v) (fun r hr=>by
   have hro:=zK.1 hallok r hr;cases r with
   | tmp t=>exact ⟨_,rfl,hview (hg.env t)⟩
   | cell a t =>
     simp only [zFs] at hro;simp only [zGO];have hx:=hg.env a;split at hro
     ·rename_i id i k hea;rw [hea] at hx;split at hro
      ·rename_i v hv;obtain ⟨p,_,hptr,_⟩:=hx;obtain ⟨_,hrun⟩:=zBc (w:=w') R.ty R.one hg.mem (t:=t) (hg.env a) (p:=none) (q:=none) (v:=v) (by rw [hea];exact hv);obtain ⟨val,h1,h2⟩:=hrun trivial;refine ⟨val,?_,hview h2⟩;rw [hptr] at h1 ⊢;rw [zBK] at h1;simp only [asAddr,Sem.run_bind,Sem.run_pure,Result.andThen_ok];exact h1
      ·cases hro
     ·cases hro)
  refine ⟨h'.defers,_,hrun,_,(fun b=>if b<w.heap.size then σ b else w'.heap[b]?),rfl,fun b o e=> ?_,fun b o e=> ?_,fun b hb=>by simp [hb],by rw [<- hu];exact zJx hall,hg.bel⟩
  ·have:b<w.heap.size:=hag.lt e;exact ⟨o,by simp [this,e],.refl⟩
  ·dsimp only at e;split at e
   ·rename_i hlt;rw [<- show σ1 b=σ b from hg.grew.2 b hlt] at e;exact hg.mem.ag _ _ e
   ·exact ⟨o,e,.refl⟩
 cases e with
 | normal=>simp only [post,AV.force_eq] at hp;exact fin hp
 | ret=>simp only [post,AV.force_eq] at hp;exact fin hp
 | _=>exact hp.elim
theorem zK7 {i:Nat} : ∀ {l:List Nat} {n m:Nat},zQh i l n=some m->∃ j,m=n+j/\l[j]? =some i
 | [],_,_,h=>by cases h
 | k ::r,n,m,h=>by
   simp only [zQh] at h;split at h
   ·rename_i hb;cases h;exact ⟨0,rfl,by simp [zH hb]⟩
   ·obtain ⟨j,e1,e2⟩:=zK7 h;exact ⟨j+1,by omega,by simpa using e2⟩
theorem y4.ren {ids:List Nat} {a:AS} {v:Value} (h:y4 σ β a v):y4 σ (ids.map fun i=>(β[i]?).getD none) (zSp ids a) v:=by
 cases a with
 | own i s n =>
   simp only [zSp];split
   ·rename_i m hm;obtain ⟨j,e1,e2⟩:=zK7 hm;rw [zD] at e1;subst e1;simp only [y4] at h ⊢;rw [List.getElem?_map,e2];cases e:β[i]? with
    | none=>simp [e] at h
    | some q=>simpa [e] using h
   ·trivial
 | ptr=>trivial
 | pti=>trivial
 | omp=>trivial
 | arr=>trivial
 | _=>exact h
theorem zFM {base:Nat} (hm: ∀ id ob,hget st.hp id=some ob->zAh σ β w id ob)
 (hs: ∀ id ob p,hget st.hp id=some ob->β[id]? =some (some p)->σ p.b=none/\base<=p.b/\∀ id' ob' p',id'≠id->hget st.hp id'=some ob'->β[id']? =some (some p')->p'.b≠p.b) :
 ∀ (ids:List Nat),nodupB ids=true->zLC st.hp ids=true->zBn σ base w (zJa st.hp ids) (ids.map fun i=>(β[i]?).getD none)
 | [],_,_=>trivial
 | i ::r,hn,hr=>by
   simp only [nodupB,zC,Bool.not_eq_true'] at hn;simp only [zLC] at hr;split at hr
   case h_2=>cases hr
   rename_i o ho;rw [zC] at hr;have hob:=hm _ _ ho;obtain ⟨x,hx⟩:=hob.place;have e1:zJa st.hp (i::r)=o::zJa st.hp r:=by simp only [zJa,ho]
   rw [e1,List.map_cons]
   have hrows: ∀ (ids:List Nat),zLC st.hp ids=true->∀ j∈ids,∃ o,hget st.hp j=some o:=by
    intro ids
    induction ids with
    | nil=>intro _ j hj;cases hj
    | cons k l ih =>
      intro hh j hj;simp only [zLC] at hh;split at hh
      ·rename_i o' ho';rw [zC] at hh;rcases zT.1 hj with e|e
       ·subst e;exact ⟨_,ho'⟩
       ·exact ih hh.2 j e
      ·cases hh
   refine ⟨?_,?_,fun p hp=> ?_,zFM hm hs r hn.2 hr.2⟩
   ·cases o with
    | row e u xs=>exact ⟨e,u,xs,rfl⟩
    | flat=>cases hr.1
    | map=>cases hr.1
    | gmap=>cases hr.1
    | grow=>cases hr.1
    | fr=>cases hr.1
   ·cases o with
    | row e u xs=>exact hob.move (by rw [hx];rfl)
    | flat=>cases hr.1
    | map=>cases hr.1
    | gmap=>cases hr.1
    | grow=>cases hr.1
    | fr=>cases hr.1
   ·rw [hx] at hp;have hp:x=some p:=hp;subst hp;obtain ⟨s1,s2,s3⟩:=hs _ _ _ ho hx;refine ⟨s1,s2,fun q' hq' p' hp'=> ?_⟩;obtain ⟨j,hj,rfl⟩:=yD.1 hq';obtain ⟨o',ho'⟩:=hrows r hr.2 j hj
    have hne:j≠i:=by
     intro e;subst e;rw [zE7.2 hj] at hn;cases hn.1
    obtain ⟨y,hy⟩:=(hm _ _ ho').place;rw [hy] at hp';have hp':y=some p':=hp';subst hp';exact s3 _ _ _ hne ho' hy
theorem zGe {τ:Sig} {γ:yQ} {fn:Func} {vs:List Value} (h:jO (fun r v=>y5 τ γ (zEB T st r) v) fn.results.toList vs):y5 τ γ (zAS T fn st) (zTe vs):=by
 unfold zAS;generalize fn.results.toList=l at h
 match l,vs,h with
 | [],[],_=>exact ⟨[],rfl,trivial⟩
 | [r],[v],h=>exact h.1
 | r ::s::l,v::u::vs,h =>
   refine ⟨_,rfl,?_⟩;rw [zCK]
   have: ∀ {l:List ResultVar} {vs:List Value},jO (fun r v=>y5 τ γ (zEB T st r) v) l vs->jO (y5 τ γ) (l.map (zEB T st)) vs:=by
    intro l
    induction l with
    | nil=>intro vs h;cases vs with|nil=>trivial|cons=>exact h.elim
    | cons x l ih=>intro vs h;cases vs with|nil=>exact h.elim|cons v vs=>exact ⟨h.1,ih h.2⟩
   exact this h
theorem z4c (R:jK P T) {f:FuncId} {fn:Func} {c:Code} (hf:P.funcs[f]? =some fn) (hb:fn.body=some c) (hok:codeOk fn.ntmps c=true)
 {args:List AV} (hl:args.length<=fn.ntmps) {q:Option Prop} {Rp:AV->List Ob->Prop} (h:zBj args->Opt q->zEu T fn args Rp) (σ:Sig) (vals:List Value) (w:World) (hag:Ag σ w) (hv:jG σ [] args vals) (hq:Opt q) :
   Calls P f vals.toArray w fun e w'=> ∃ u us v σ' β',Rp u us/\e= .returned v/\σ.le σ'/\Ag σ' w'/\
   (∀ b,b<w.heap.size->σ' b=σ b)/\y5 σ' β' u v/\zBn σ' w.heap.size w' us β'/\Below w.heap.size w w':=by
 have hga:=zIS (N:=fn.ntmps) hag hv hl;have hk:=h (zCE hv) hq;simp only [zEu,hb,St.forceAll_eq] at hk;refine (callsIn_of_wp (F:=Fence.wide) (n:=0) hf hb trivial ?_).calls (fun _ _ hd=>by cases hd);rw [<- FR.none];refine zAY R c hok hga hk fun e st' a' w' hp h'=> ?_
 have fin:(match fn.results.toList.all (zFs T st')&&(nodupB (zAp (zAS T fn st').parts)&&zLC st'.hp (zAp (zAS T fn st').parts)) with
  | true=>Rp ((zAS T fn st').mapAS (zSp (zAp (zAS T fn st').parts))) (zJa st'.hp (zAp (zAS T fn st').parts))
  | false=>False)->a'.defers=[]/\∃ v,(results fn a'.tmps).run P w'= .ok v w'/\∃ u us v' σ' β',Rp u us/\(Ending.returned v)= .returned v'/\σ.le σ'/\Ag σ' w'/\
  (∀ b,b<w.heap.size->σ' b=σ b)/\y5 σ' β' u v'/\zBn σ' w.heap.size w' us β'/\Below w.heap.size w w':=by
  intro hu;split at hu
  case h_2=>exact hu.elim
  rename_i hallok;rw [zC,zC] at hallok;obtain ⟨hallok,hnd,hrows⟩:=hallok;obtain ⟨σ1,β1,hg⟩:=h'.gg
  obtain ⟨vs,hrun,hall⟩:=zB9 (P:=P) (w:=w') (fn:=fn) (tmps:=a'.tmps) (Q:=fun r v=>y5 σ1 β1 (zEB T st' r) v) (fun r hr=>by
   have hro:=zK.1 hallok r hr;cases r with
   | tmp t=>exact ⟨_,rfl,hg.env t⟩
   | cell a t =>
     simp only [zFs] at hro;simp only [zEB];have hx:=hg.env a;split at hro
     ·rename_i id i k hea;rw [hea] at hx;split at hro
      ·rename_i v hv;obtain ⟨p,_,hptr,_⟩:=hx;obtain ⟨_,hrun⟩:=zBc (w:=w') R.ty R.one hg.mem (t:=t) (hg.env a) (p:=none) (q:=none) (v:=v) (by rw [hea];exact hv);obtain ⟨val,h1,h2⟩:=hrun trivial;refine ⟨val,?_,h2⟩;rw [hptr] at h1 ⊢;rw [zBK] at h1;simp only [asAddr,Sem.run_bind,Sem.run_pure,Result.andThen_ok];exact h1
      ·cases hro
     ·cases hro)
  refine ⟨h'.defers,_,hrun,_,_,_,σ1,(zAp (zAS T fn st').parts).map fun i=>(β1[i]?).getD none,hu,rfl,hg.grew.1,hg.mem.ag,hg.grew.2,?_,?_,hg.bel⟩
  ·exact (zGe hall).mapAS fun a v ha=>y4.ren (ids:=zAp (zAS T fn st').parts) ha
  ·exact zFM (w:=w') hg.mem.ob hg.sep _ hnd hrows
 cases e with
 | normal=>simp only [zSd,AV.force_eq] at hp;exact fin hp
 | ret=>simp only [zSd,AV.force_eq] at hp;exact fin hp
 | _=>exact hp.elim
theorem z6y (R:jK P T) {f:FuncId} {fn:Func} {c:Code} (hf:P.funcs[f]? =some fn) (hb:fn.body=some c) (hok:codeOk fn.ntmps c=true)
 {args:List AV} (hl:args.length<=fn.ntmps) {q:Option Prop} {u:AV} {us:List Ob} (h:zBj args->Opt q->zEu T fn args (fun v obs=>v=u/\obs=us)):zCk P f args (none,q,u,us):=by
 intro σ vals w hag hv;refine ⟨trivial,fun hq=>(z4c R hf hb hok hl h σ vals w hag hv hq).mono ?_⟩;rintro e w' ⟨u1,us1,v,σ',β',⟨rfl,rfl⟩,h2⟩;exact ⟨v,σ',β',h2⟩
end
end Go.Vm
/- Contracts by data, and the checks of a table. -/
namespace Go.Vm
def yJ (p:Prop):Prop:=p
theorem yJ.out {p:Prop} (h:yJ p):p:=h
theorem yJ.intro {p:Prop} (h:p):yJ p:=h
def y9 (a b:AV):Prop:=a=b
theorem y9.out {a b:AV} (h:y9 a b):a=b:=h
theorem y9.intro {a b:AV} (h:a=b):y9 a b:=h
def zIU (a b:Prop):Prop:=a\/b
theorem zIU.out {a b:Prop} (h:zIU a b):a\/b:=h
theorem zIU.intro {a b:Prop} (h:a\/b):zIU a b:=h
def jL (a b:Ob):Prop:=a=b
theorem jL.out {a b:Ob} (h:jL a b):some a=some b:=congrArg some h
theorem jL.intro {a b:Ob} (h:a=b):jL a b:=h
def zBu (a b:List Ob):Prop:=a=b
theorem zBu.out {a b:List Ob} (h:zBu a b):a=b:=h
theorem zBu.intro {a b:List Ob} (h:a=b):zBu a b:=h
attribute [irreducible] yJ y9 zIU jL zBu
theorem zBu.row {e:ETy} {u:TypeId} {m n:List e.T} (h:m=n):zBu [.row e u m] [.row e u n]:=zBu.intro (by rw [h])
theorem jL.row {e:ETy} {u:TypeId} {m n:List e.T} (h:m=n):jL (.row e u m) (.row e u n):=jL.intro (by rw [h])
theorem jL.map {k v:ETy} {m n:List (k.T×v.T)} (h:m=n):jL (.map k v m) (.map k v n):=jL.intro (by rw [h])
theorem jL.gmap {k e:ETy} {m n:List (k.T×List e.T)} (h:m=n):jL (.gmap k e m) (.gmap k e n):=jL.intro (by rw [h])
theorem jL.grow {e:ETy} {u:TypeId} {m n:List (List e.T)} (h:m=n):jL (.grow e u m) (.grow e u n):=jL.intro (by rw [h])
theorem y9.int {k:IntKind} {m n:Int} (h:m=n):y9 (.s (.int k m)) (.s (.int k n)):=y9.intro (by rw [h])
theorem y9.bool {m n:Bool} (h:m=n):y9 (.s (.bool m)) (.s (.bool n)):=y9.intro (by rw [h])
theorem y9.sl {e:ETy} {m n:List e.T} (h:m=n):y9 (.s (.sl e m)) (.s (.sl e n)):=y9.intro (by rw [h])
theorem zX {α β:Type _} (p:α×β):(p.1,p.2)=p:=rfl
theorem zY {α:Sort _} {a:α} {motive:(b:α)->a=b->Sort _} (x:motive a rfl) (h:a=a): @Eq.rec α a motive x a h=x:=rfl
def ETy.av (e:ETy) (x:e.T):AV :=
 match e.isAgg with
 | true=> .agg (e.cells x)
 | false=>match e.cells x with
   | [a]=> .s a
   | _=> .junk
def ETy.of (e:ETy) (v:AV):Option e.T :=
 match v.isAgg==e.isAgg,v.flat with
 | true,some l=>e.dec l
 | _,_=>none
section
variable {P:Program} {T:Tab} {σ:Sig} {β:yQ}
theorem ETy.cells_one: ∀ {e:ETy} {x:e.T},e.isAgg=false->∃ a,e.cells x=[a]
 | .int _,_,_=>⟨_,rfl⟩
 | .bool,_,_=>⟨_,rfl⟩
 | .sl _,_,_=>⟨_,rfl⟩
 | .mp _ _,_,_=>⟨_,rfl⟩
 | .pt _,_,_=>⟨_,rfl⟩
 | .fnc,_,_=>⟨_,rfl⟩
theorem ETy.av_rep {e:ETy} {x:e.T} {ds:List Value} (h:jE σ e x ds):y5 σ β (e.av x) (yW e ds):=by
 unfold ETy.av;cases hg:e.isAgg with
 | true=>exact ⟨ds,zEd h.length hg,h.cells⟩
 | false =>
   obtain ⟨a,ha⟩:=ETy.cells_one (x:=x) hg;have hc:=h.cells (β:=β);rw [ha] at hc ⊢;obtain ⟨d,rfl,hd⟩:=hc.len_one;rw [zK8 hg];exact hd
theorem ETy.of_rep {e:ETy} {v:AV} {x:e.T} {val:Value} (h:e.of v=some x) (hv:y5 σ β v val):jE σ e x val.cells.toList/\y5 σ β (e.av x) val:=by
 unfold ETy.of at h;split at h
 ·rename_i hb hl;have h1:=ETy.dec_sound h (zAz hv hl);refine ⟨h1,?_⟩;have h2:=zEK hv hl (by simpa using hb) h1.length;have h3:=ETy.av_rep (β:=β) h1;rw [<- h2] at h3;exact h3
 ·cases h
theorem zCr.imp {f:FuncId} {args args':List AV} {r:Res} (h:zCr P f args' r) (hi: ∀ σ vals,jG σ [] args vals->jG σ [] args' vals):zCr P f args r :=
 fun σ vals w h1 h2=>h σ vals w h1 (hi σ vals h2)
def zEv {ρ:Type} (a:ETy) (f:a.T->Option ρ):List AV->Option ρ
 | [u]=>match a.of u with
   | some x=>f x
   | _=>none
 | _=>none
def zCs {ρ:Type} (a b:ETy) (f:a.T->b.T->Option ρ):List AV->Option ρ
 | [u,v]=>match a.of u,b.of v with
   | some x,some y=>f x y
   | _,_=>none
 | _=>none
def zOb {ρ:Type} (a b c:ETy) (f:a.T->b.T->c.T->Option ρ):List AV->Option ρ
 | [u,v,w]=>match a.of u,b.of v,c.of w with
   | some x,some y,some z=>f x y z
   | _,_,_=>none
 | _=>none
def z8f {ρ:Type} (a b c d:ETy) (f:a.T->b.T->c.T->d.T->Option ρ):List AV->Option ρ
 | [u,v,w,s]=>match a.of u,b.of v,c.of w,d.of s with
   | some x,some y,some z,some q=>f x y z q
   | _,_,_,_=>none
 | _=>none
theorem zAW {a:ETy} {f:a.T->Option Res} {n:FuncId} (h: ∀ x r,f x=some r->zCr P n [a.av x] r): ∀ args r,zEv a f args=some r->zCr P n args r:=by
 intro args r e;unfold zEv at e;split at e
 ·split at e
  ·rename_i x hx;refine (h _ _ e).imp fun σ vals hv=> ?_
   match vals,hv with
   | [v],hv=>exact ⟨(ETy.of_rep hx hv.1).2,trivial⟩
  ·cases e
 ·cases e
theorem jC {a b:ETy} {f:a.T->b.T->Option Res} {n:FuncId} (h: ∀ x y r,f x y=some r->zCr P n [a.av x,b.av y] r): ∀ args r,zCs a b f args=some r->zCr P n args r:=by
 intro args r e;unfold zCs at e;split at e
 ·split at e
  ·rename_i x y hx hy;refine (h _ _ _ e).imp fun σ vals hv=> ?_
   match vals,hv with
   | [v,w],hv=>exact ⟨(ETy.of_rep hx hv.1).2,(ETy.of_rep hy hv.2.1).2,trivial⟩
  ·cases e
 ·cases e
theorem zDM {a b c:ETy} {f:a.T->b.T->c.T->Option Res} {n:FuncId} (h: ∀ x y z r,f x y z=some r->zCr P n [a.av x,b.av y,c.av z] r): ∀ args r,zOb a b c f args=some r->zCr P n args r:=by
 intro args r e;unfold zOb at e;split at e
 ·split at e
  ·rename_i x y z hx hy hz;refine (h _ _ _ _ e).imp fun σ vals hv=> ?_
   match vals,hv with
   | [v,w,u],hv=>exact ⟨(ETy.of_rep hx hv.1).2,(ETy.of_rep hy hv.2.1).2,(ETy.of_rep hz hv.2.2.1).2,trivial⟩
  ·cases e
 ·cases e
theorem z48 {a b c d:ETy} {f:a.T->b.T->c.T->d.T->Option Res} {n:FuncId} (h: ∀ x y z s r,f x y z s=some r->zCr P n [a.av x,b.av y,c.av z,d.av s] r): ∀ args r,z8f a b c d f args=some r->zCr P n args r:=by
 intro args r e;unfold z8f at e;split at e
 ·split at e
  ·rename_i x y z s hx hy hz hs;refine (h _ _ _ _ _ e).imp fun σ vals hv=> ?_
   match vals,hv with
   | [v,w,u,t],hv=>exact ⟨(ETy.of_rep hx hv.1).2,(ETy.of_rep hy hv.2.1).2,(ETy.of_rep hz hv.2.2.1).2,(ETy.of_rep hs hv.2.2.2.1).2,trivial⟩
  ·cases e
 ·cases e
theorem zCk.imp {f:FuncId} {args args':List AV} {r:zKI} (h:zCk P f args' r) (hi: ∀ σ vals,jG σ [] args vals->jG σ [] args' vals):zCk P f args r :=
 fun σ vals w h1 h2=>h σ vals w h1 (hi σ vals h2)
theorem zZs {ρ:Type} {Ok:List AV->ρ->Prop} (hi: ∀ args args' r,Ok args' r->(∀ σ vals,jG σ [] args vals->jG σ [] args' vals)->Ok args r) {a:ETy} {f:a.T->Option ρ} (h: ∀ x r,f x=some r->Ok [a.av x] r): ∀ args r,zEv a f args=some r->Ok args r:=by
 intro args r e;unfold zEv at e;split at e
 ·split at e
  ·rename_i x hx;refine hi _ _ _ (h _ _ e) fun σ vals hv=> ?_
   match vals,hv with
   | [v],hv=>exact ⟨(ETy.of_rep hx hv.1).2,trivial⟩
  ·cases e
 ·cases e
theorem zCC {a:ETy} {f:a.T->Option zKI} {n:FuncId} (h: ∀ x r,f x=some r->zCk P n [a.av x] r): ∀ args r,zEv a f args=some r->zCk P n args r :=
 zZs (Ok:=zCk P n) (fun _ _ _ h hi=>zCk.imp h hi) h
theorem zZB {ρ:Type} {Ok:List AV->ρ->Prop} (hi: ∀ args args' r,Ok args' r->(∀ σ vals,jG σ [] args vals->jG σ [] args' vals)->Ok args r) {a b:ETy} {f:a.T->b.T->Option ρ} (h: ∀ x y r,f x y=some r->Ok [a.av x,b.av y] r): ∀ args r,zCs a b f args=some r->Ok args r:=by
 intro args r e;unfold zCs at e;split at e
 ·split at e
  ·rename_i x y hx hy;refine hi _ _ _ (h _ _ _ e) fun σ vals hv=> ?_
   match vals,hv with
   | [v,w],hv=>exact ⟨(ETy.of_rep hx hv.1).2,(ETy.of_rep hy hv.2.1).2,trivial⟩
  ·cases e
 ·cases e
theorem zQk {a b:ETy} {f:a.T->b.T->Option zKI} {n:FuncId} (h: ∀ x y r,f x y=some r->zCk P n [a.av x,b.av y] r): ∀ args r,zCs a b f args=some r->zCk P n args r :=
 zZB (Ok:=zCk P n) (fun _ _ _ h hi=>zCk.imp h hi) h
theorem zZz {ρ:Type} {Ok:List AV->ρ->Prop} (hi: ∀ args args' r,Ok args' r->(∀ σ vals,jG σ [] args vals->jG σ [] args' vals)->Ok args r) {a b c:ETy} {f:a.T->b.T->c.T->Option ρ} (h: ∀ x y z r,f x y z=some r->Ok [a.av x,b.av y,c.av z] r): ∀ args r,zOb a b c f args=some r->Ok args r:=by
 intro args r e;unfold zOb at e;split at e
 ·split at e
  ·rename_i x y z hx hy hz;refine hi _ _ _ (h _ _ _ _ e) fun σ vals hv=> ?_
   match vals,hv with
   | [v,w,u],hv=>exact ⟨(ETy.of_rep hx hv.1).2,(ETy.of_rep hy hv.2.1).2,(ETy.of_rep hz hv.2.2.1).2,trivial⟩
  ·cases e
 ·cases e
theorem zQ3 {a b c:ETy} {f:a.T->b.T->c.T->Option zKI} {n:FuncId} (h: ∀ x y z r,f x y z=some r->zCk P n [a.av x,b.av y,c.av z] r): ∀ args r,zOb a b c f args=some r->zCk P n args r :=
 zZz (Ok:=zCk P n) (fun _ _ _ h hi=>zCk.imp h hi) h
theorem zBg {α:Type} : ∀ {l:List (Nat×α)} {t:Nat} {x:α},zF1 l t=some x->(t,x)∈l
 | [],_,_,h=>by cases h
 | (k,v)::r,t,x,h=>by
   simp only [zF1] at h;split at h
   ·rename_i e;cases h;rw [zH e];simp
   ·exact zS _ (zBg h)
def zVH (P:Program) (t:TypeId) (d:TypeDesc):Bool:=match d with
 | .struct fs => !P.stoodInHeld t && fs.toList.all fun f => f.name != "_"
 | _=>true
theorem zPG {t : TypeId} {d : TypeDesc} (h : zVH P t d = true) : ∀ fs, d = .struct fs → P.stoodInHeld t = false ∧ ∀ f ∈ fs.toList, f.name ≠ "_" := by
 rintro fs rfl;simp only [zVH,zC,Bool.not_eq_true',zK,bne_iff_ne,ne_eq] at h;exact h
def zIO (P:Program):List (Nat×TI)->Prop
 | []=>True
 | x::r=>zOd P x.1 x.2/\zIO P r
theorem zIO.cons {t:Nat} {ti:TI} {r:List (Nat×TI)} (h1:P.underlying t=some ti.desc) (h2:(P.info? t).map (fun i=>(i.size,i.bytes,i.zero.map fun z=>z.cells.toList))=some (ti.size,ti.bytes,some ti.zl))
 (h3:ti.zl.all zGm=true) (h4:ti.zl.length=ti.size) (h5:zVH P t ti.desc=true) (h:zIO P r):zIO P ((t,ti)::r):=⟨⟨h1,h2,h3,h4,zPG h5⟩,h⟩
theorem zIO.mem: ∀ {l:List (Nat×TI)},zIO P l->∀ x∈l,zOd P x.1 x.2
 | _::_,h,x,hx=>by
   cases zT.1 hx with
   | inl e=>subst e;exact h.1
   | inr e=>exact zIO.mem h.2 x e
theorem zZM (h:zIO P T.ty):zAA P T:=fun _ _ e=>h.mem _ (zBg e)
theorem zTR (h:(T.ty.all fun x=>zAC x.2.desc|| x.2.size==1)=true):zGu T:=fun t ti e hn=>by
 have:=zK.1 h _ (zBg e);simpa [hn] using this
def zIx:List (Nat×TI)->Prop
 | []=>True
 | x::r=>(∀ e,x.2.ety=some e->x.2.zl=e.zeroVals/\x.2.size=e.size)/\zIx r
theorem zIx.mem: ∀ {l:List (Nat×TI)},zIx l->∀ x∈l,∀ e,x.2.ety=some e->x.2.zl=e.zeroVals/\x.2.size=e.size
 | _::_,h,x,hx=>by
   cases zT.1 hx with
   | inl e=>subst e;exact h.1
   | inr e=>exact zIx.mem h.2 x e
theorem zTu (h:zIx T.ty):zHE T:=fun _ _ e=>h.mem _ (zBg e)
theorem zQw {ti:TI} {e':ETy} (h:ti.ety=some e') (hz:ti.zl=e'.zeroVals) (hs:ti.size=e'.size): ∀ e,ti.ety=some e->ti.zl=e.zeroVals/\ti.size=e.size:=fun e he=>by
 rw [h] at he;cases he;exact ⟨hz,hs⟩
theorem z0f {ti:TI} (h:ti.ety=none): ∀ e,ti.ety=some e->ti.zl=e.zeroVals/\ti.size=e.size:=fun e he=>by rw [h] at he;cases he
def zI3 (P:Program) (T:Tab):List (Nat×TI)->Prop
 | []=>True
 | x::r=>(∀ kt u,x.2.desc= .map kt u->∀ ki ui k e,T.info kt=some ki->T.info u=some ui->ki.ety=some k->ui.ety=some e->zEt P kt u k e)/\zI3 P T r
theorem zI3.mem: ∀ {l:List (Nat×TI)},zI3 P T l->∀ x∈l,∀ kt u,x.2.desc= .map kt u->∀ ki ui k e,T.info kt=some ki->T.info u=some ui->ki.ety=some k->ui.ety=some e->zEt P kt u k e
 | _::_,h,x,hx=>by
   cases zT.1 hx with
   | inl e=>subst e;exact h.1
   | inr e=>exact zI3.mem h.2 x e
theorem zVL (h:zI3 P T T.ty):zR2 P T:=fun t kt u hd=>by
 unfold Tab.desc at hd;cases e:zF1 T.ty t with
 | none=>simp [e] at hd
 | some ti=>simp only [e] at hd;exact h.mem _ (zBg e) kt u hd
def z6q:TypeDesc->Bool
 | .map _ _=>true
 | _=>false
theorem z3U {d:TypeDesc} (h:z6q d=false) {Q:Nat->Nat->Prop} : ∀ kt u,d= .map kt u->Q kt u:=fun kt u e=>by subst e;cases h
theorem zJP {kt u:TypeId} {ki ui:TI} {k e:ETy} (h1:T.info kt=some ki) (h2:T.info u=some ui) (h3:ki.ety=some k) (h4:ui.ety=some e) (hm:zEt P kt u k e) {d:TypeDesc} (hd:d= .map kt u) :
 ∀ kt u,d= .map kt u->∀ ki ui k e,T.info kt=some ki->T.info u=some ui->ki.ety=some k->ui.ety=some e->zEt P kt u k e:=by
 intro kt' u' hd' ki' ui' k' e' g1 g2 g3 g4;rw [hd] at hd';cases hd';rw [h1] at g1;cases g1;rw [h2] at g2;cases g2;rw [h3] at g3;cases g3;rw [h4] at g4;cases g4;exact hm
def zMg (P:Program):List (Nat×(List AV->Option Res))->Prop
 | []=>True
 | x :: r => ((∀ args r, x.2 args = some r → zCr P x.1 args r) ∧ ∃ fn, P.funcs[x.1]? = some fn ∧ (fn.name == "runtime.NumGoroutine") = false ∧ fn.body.isNone = false) ∧ zMg P r
theorem zMg.mem : ∀ {l : List (Nat × (List AV → Option Res))}, zMg P l → ∀ x ∈ l, (∀ args r, x.2 args = some r → zCr P x.1 args r) ∧ ∃ fn, P.funcs[x.1]? = some fn ∧ (fn.name == "runtime.NumGoroutine") = false ∧ fn.body.isNone = false
 | _::_,h,x,hx=>by
   cases zT.1 hx with
   | inl e=>subst e;exact h.1
   | inr e=>exact zMg.mem h.2 x e
theorem zZW (h:zMg P T.fn):z4V P T:=⟨fun _ _ e=>(h.mem _ (zBg e)).1,fun _ _ e=>(h.mem _ (zBg e)).2⟩
def z8s (P:Program) (f:FuncId):FrE->Prop
 | .res c=> ∀ args r,c args=some r->zCk P f args r
 | .run h=>zJU P f h
def zPb (P:Program):List (Nat×FrE)->Prop
 | []=>True
 | x :: r => (z8s P x.1 x.2 ∧ ∃ fn, P.funcs[x.1]? = some fn ∧ (fn.name == "runtime.NumGoroutine") = false ∧ fn.body.isNone = false) ∧ zPb P r
theorem zPb.mem : ∀ {l : List (Nat × FrE)}, zPb P l → ∀ x ∈ l, z8s P x.1 x.2 ∧ ∃ fn, P.funcs[x.1]? = some fn ∧ (fn.name == "runtime.NumGoroutine") = false ∧ fn.body.isNone = false
 | _::_,h,x,hx=>by
   cases zT.1 hx with
   | inl e=>subst e;exact h.1
   | inr e=>exact zPb.mem h.2 x e
theorem z0S (h:zPb P T.fr):z3E P T:=⟨fun _ _ e=>(h.mem _ (zBg e)).1,fun _ _ e=>(h.mem _ (zBg e)).1,fun _ _ e=>(h.mem _ (zBg e)).2⟩
theorem zYc {ty:List (Nat×TI)} (h1:zIO P ty) (h2:(ty.all fun x=>zAC x.2.desc|| x.2.size==1)=true) (h3:zIx ty) (h4: ∀ fn fr,zI3 P ⟨ty,fn,fr⟩ ty) (h5:P.follows .mixedOrders=true)
 {fn:List (Nat×(List AV->Option Res))} {fr:List (Nat×FrE)} (hf:zMg P fn) (hr:zPb P fr):jK P ⟨ty,fn,fr⟩ :=
 ⟨zZM h1,zTR h2,zTu h3,zZW hf,z0S hr,h5,zVL (h4 fn fr)⟩
def zLe (fn:Func) (m:Nat):Bool :=
 match fn.body with
 | some c=>codeOk fn.ntmps c&&Nat.ble m fn.ntmps
 | _=>false
theorem qL (R:jK P T) {f:FuncId} {fn:Func} (hf:P.funcs[f]? =some fn) {args:List AV} (hchk:zLe fn args.length=true) {q:Option Prop} {u:AV} (h:zBj args->Opt q->zAG T fn args (fun v=>v=u)):zCr P f args (none,q,u):=by
 unfold zLe at hchk;split at hchk
 ·rename_i c hc;simp only [zC] at hchk;exact z85 R hf hc hchk.1 (zU hchk.2) h
 ·cases hchk
theorem zDc (R:jK P T) {f:FuncId} {fn:Func} (hf:P.funcs[f]? =some fn) {args:List AV} (hchk:zLe fn args.length=true) {q:Option Prop} {u:AV} {us:List Ob} (h:zBj args->Opt q->zEu T fn args (fun v obs=>v=u/\obs=us)):zCk P f args (none,q,u,us):=by
 unfold zLe at hchk;split at hchk
 ·rename_i c hc;simp only [zC] at hchk;exact z6y R hf hc hchk.1 (zU hchk.2) h
 ·cases hchk
def zDB (P : Program) (f : Nat) (c : List AV → Option zKI) : Prop := (∀ args r, c args = some r → zCk P f args r) ∧ ∃ fn, P.funcs[f]? = some fn ∧ (fn.name == "runtime.NumGoroutine") = false ∧ fn.body.isNone = false
theorem zZ {α:Type _} (d w:α):List.take 1 (List.drop 0 ((List.replicate 1 d).set 0 w))=[w]:=rfl
theorem zR {α:Type _} (w:α):List.take 1 (List.drop 0 [w])=[w]:=rfl
theorem yE {α:Type _} (d w:α):(List.replicate 1 d).set 0 w=[w]:=rfl
theorem z6 {α:Type _} (l:List α):List.take l.length (List.drop 0 l)=l:=by rw [List.drop_zero,List.take_length]
theorem y9.own {i s m n:Nat} (h:m=n):y9 (.s (.own i s m)) (.s (.own i s n)):=y9.intro (by rw [h])
theorem y9.ownS {i s s' m n:Nat} (hs:s=s') (h:m=n):y9 (.s (.own i s m)) (.s (.own i s' n)):=y9.intro (by rw [hs,h])
end
def zH3:Code->Nat
 | .region k _ _=>k
 | .seq a _=>zH3 a
 | .block _ c=>zH3 c
 | .cond _ a _=>zH3 a
 | _=>1000000
theorem qS {T:Tab} {c:Code} {K:Exit->St->Prop} {st:St} {Q:Prop} (k:Nat) (_:zH3 c=k) (h:Or (∃ n,rounds (zA5 T c) K n st) Q):Or (∃ n,rounds (zA5 T c) K n st) Q:=h
theorem qN {q k:Prop} (h:q) (h':k):zM6 q k:=zM6.intro h h'
theorem qH {q k:Prop} (h:yJ q) (h':k):zM6 q k:=zM6.intro (yJ.out h) h'
theorem qG {p k:Prop} (h:p->k):zQH p k:=zQH.intro h
theorem qB {p q:Prop} (h:p) (h':q):zZv p q:=zZv.intro h h'
theorem qa {a b:Bool} {x y:Prop} (h:BIf a (BIf b x y) y):BIf (a&&b) x y:=BIf.and h
theorem qo {a b:Bool} {x y:Prop} (h:BIf a x (BIf b x y)):BIf (a|| b) x y:=BIf.or h
theorem qe {α:Type} [BEq α] [LawfulBEq α] {a b:α} {x y:Prop} (h1:a=b->x) (h2:a≠b->y):BIf (a==b) x y:=BIf.eqi h1 h2
theorem qn {α:Type} [BEq α] [LawfulBEq α] {a b:α} {x y:Prop} (h1:a≠b->x) (h2:a=b->y):BIf (a != b) x y:=BIf.nei h1 h2
theorem qd {p x y:Prop} [Decidable p] (h1:p->x) (h2: ¬p->y):BIf (decide p) x y:=BIf.dec h1 h2
theorem qt {b:Bool} {x y:Prop} (h:BIf b y x):BIf (!b) x y:=BIf.nt h
theorem qE {a b:AV} {q:Prop} (h:y9 a b) (h':q):a=b/\q:=zA (y9.out h) h'
theorem qO {a b:Ob} {q:Prop} (h:jL a b) (h':q):some a=some b/\q:=zA (jL.out h) h'
theorem qK {b:Bool} {p:Prop} (h:b=true) (h':p):zGw b p:=zGw.intro h h'
theorem qs {a b:List Ob} (h:zBu a b):a=b:=zBu.out h
theorem qr {a b:Prop} (h:zIU a b):a\/b:=zIU.out h
theorem qq {a b:AV} (h:y9 a b):a=b:=y9.out h
theorem qh {p:Prop} (h:p):yJ p:=yJ.intro h
theorem qn1 {α:Type _} {a:α} :[a].length=1:=rfl
theorem qn2 (n:Nat):((n:Int)).toNat=n:=Int.toNat_natCast n
theorem qn3 {α:Type _} {a d:α} {l:List α} :(a::l).getD 0 d=a:=rfl
theorem qn4 {α:Type _} {a d:α} {l:List α} {n:Nat} :(a::l).getD (n+1) d=l.getD n d:=rfl
theorem gE {α:Type _} {l:List α} {i:Nat} (h:i<l.length):l[i]? =some l[i]:=zG h
theorem gdE {α:Type _} (l:List α) (i:Nat) (a:α):l.getD i a=(l[i]?).getD a:=zQ
theorem qz1 {k:IntKind} {m n:Int} (h:m=n):y9 (.s (.int k m)) (.s (.int k n)):=y9.int h
theorem qz2 {m n:Bool} (h:m=n):y9 (.s (.bool m)) (.s (.bool n)):=y9.bool h
theorem qz3 {e:ETy} {m n:List e.T} (h:m=n):y9 (.s (.sl e m)) (.s (.sl e n)):=y9.sl h
theorem qz4 {i s m n:Nat} (h:m=n):y9 (.s (.own i s m)) (.s (.own i s n)):=y9.own h
theorem qz5 {i s s' m n:Nat} (hs:s=s') (h:m=n):y9 (.s (.own i s m)) (.s (.own i s' n)):=y9.ownS hs h
theorem qz6 {e:ETy} {u:TypeId} {m n:List e.T} (h:m=n):jL (.row e u m) (.row e u n):=jL.row h
theorem qz7 {k v:ETy} {m n:List (k.T×v.T)} (h:m=n):jL (.map k v m) (.map k v n):=jL.map h
theorem qz8 {k e:ETy} {m n:List (k.T×List e.T)} (h:m=n):jL (.gmap k e m) (.gmap k e n):=jL.gmap h
theorem qz9 {e:ETy} {u:TypeId} {m n:List (List e.T)} (h:m=n):jL (.grow e u m) (.grow e u n):=jL.grow h
theorem qz0 {e:ETy} {u:TypeId} {m n:List e.T} (h:m=n):zBu [.row e u m] [.row e u n]:=zBu.row h
theorem qi {b:Bool} {p q:Prop} (h1:b=true->p) (h2:b=false->q):BIf b p q:=BIf.intro h1 h2
end Go.Vm
