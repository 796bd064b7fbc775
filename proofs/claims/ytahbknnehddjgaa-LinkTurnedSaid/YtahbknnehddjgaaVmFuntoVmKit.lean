/- A part of the proofs of the laws. -/
import Derived.Test.YtahbknnehddjgaaVmCode2
import Derived.KernelRfl
set_option linter.unusedSimpArgs false
set_option linter.unusedVariables false
set_option maxHeartbeats 8000000
set_option maxRecDepth 100000
/- A whole function: from what the evaluator asks to what its callers may lean on. -/
namespace Go.Vm
open Go.RowKit
def ETy.good:(e:ETy)→e.T→Prop
  | .int .i64,n=>i64ok n
  | .int k,n=>k.wrap n=n
  | .bool,_=>True
  | .arr2,x=>i64ok x.1∧i64ok x.2
  | .arr3,x=>i64ok x.1∧i64ok x.2.1∧i64ok x.2.2
  | .pair a b,x=>a.good x.1∧b.good x.2
  | .sl e,xs=>xs.length≤140737488355328∧∀ x∈xs,e.good x
  | .mp k _,m=> ∀ x∈m,k.good x.1
  | .pt e,o=> ∀ x,o=some x→e.good x
  | .unit,_=>True
  | .fnc,_=>True
def AS.good:AS→Prop
  | .int .i64 n=>i64ok n
  | .int k n=>k.wrap n=n
  | .sl e xs=>(ETy.sl e).good xs
  | .mp k v m=>(ETy.mp k v).good m
  | .pt e o=>(ETy.pt e).good o
  | .ip e x _=>e.good x
  | .ipi e x _=>e.good x
  | _=>True
def goodAll:List AS→Prop
  | []=>True
  | a::l=>a.good∧goodAll l
def AV.good:AV→Prop
  | .s a=>a.good
  | .agg l=>goodAll l
  | .tup _=>True
def goodArgs:List AV→Prop
  | []=>True
  | a::l=>a.good∧goodArgs l
section
variable {P:Program} {B:Base} {w:World} {σ:Sig} {β:Places} {st:St} {T:Tab} {a:Act} {hp:Heap}
theorem inK_i64 {n:Int} (h:InK .i64 n):i64ok n:=InK.i64.1 h
theorem ERep.good: ∀ {e:ETy} {x:e.T} {ds:List Value},ERep σ e x ds→e.good x
  | .int k,n,ds,h=>by cases k<;>first | exact inK_i64 h.2 | exact h.2
  | .bool,_,_,_=>trivial
  | .arr2,x,_,h=>⟨inK_i64 h.2.1,inK_i64 h.2.2⟩
  | .arr3,x,_,h=>⟨inK_i64 h.2.1,inK_i64 h.2.2.1,inK_i64 h.2.2.2⟩
  | .pair a b,x,_,h=>by obtain ⟨d1,d2,_,h1,h2⟩:=h;exact ⟨h1.good,h2.good⟩
  | .sl e,xs,_,h=>by
    obtain ⟨p,cap,_,hl,_,h⟩:=h
    refine ⟨hl,fun x hx=> ?_⟩
    obtain ⟨b,o,_,h⟩:=h (List.ne_nil_of_mem hx)
    obtain ⟨i,hi,rfl⟩:=List.mem_iff_getElem.1 hx
    obtain ⟨d,h1,_⟩:=h i _ (List.getElem?_eq_getElem hi)
    exact h1.good
  | .mp k v,m,_,h=>by
    obtain ⟨p,_,hl,hn,h⟩:=h
    refine fun x hx=> ?_
    cases p with
    | none=>rw [hn rfl] at hx;cases hx
    | some b =>
      obtain ⟨es,clock,_,_,h⟩:=h b rfl
      obtain ⟨i,hi,rfl⟩:=List.mem_iff_getElem.1 hx
      obtain ⟨en,dk,dv,_,h1,_⟩:=h i _ (List.getElem?_eq_getElem hi)
      exact h1.good
  | .pt e,none,_,_=>fun x hx=>by cases hx
  | .pt e,some x,_,h=>fun y hy=>by
    cases hy
    obtain ⟨b,off,d,_,h1,_⟩:=h;exact h1.good
  | .unit,_,_,_=>trivial
  | .fnc,_,_,_=>trivial
theorem ARep.good {x:AS} {v:Value} (h:ARep σ β x v):x.good:=by
  cases x with
  | int k n=>obtain ⟨_,h⟩:=h;cases k<;>first | exact inK_i64 h | exact h
  | sl e xs=>exact ERep.good h
  | mp k v m=>exact ERep.good h
  | pt e o=>exact ERep.good h
  | ip e x k=>obtain ⟨b,o,d,_,h1,_⟩:=h;exact h1.good
  | ipi e x k=>obtain ⟨b,o,d,_,h1,_⟩:=h;exact h1.good
  | _=>trivial
theorem all2_good: ∀ {l:List AS} {ds:List Value},All2 (ARep σ β) l ds→goodAll l
  | [],_,_=>trivial
  | _::_,_::_,h=>⟨h.1.good,all2_good h.2⟩
  | _::_,[],h=>h.elim
theorem VRep.good {x:AV} {v:Value} (h:VRep σ β x v):x.good:=by
  cases x with
  | s a=>exact ARep.good h
  | agg l=>obtain ⟨ds,_,r⟩:=h;exact all2_good r
  | tup l=>trivial
theorem vreps_good: ∀ {l:List AV} {m:List Value},VReps σ β l m→goodArgs l
  | [],_,_=>trivial
  | _::_,_::_,h=>⟨VRep.good h.1,vreps_good h.2⟩
  | _::_,[],h=>h.elim
theorem vreps_length: ∀ {l:List AV} {m:List Value},VReps σ β l m→l.length=m.length
  | [],[],_=>rfl
  | _::_,_::_,h=>by simp [vreps_length h.2]
  | [],_::_,h=>h.elim
  | _::_,[],h=>h.elim
theorem argEnv_rep {m:Nat} : ∀ {l:List AV} {vs:List Value} (i:Nat),VReps σ β l vs→∀ t,VRep σ β (eget (argEnv i l) t) (if t<i then undef else (vs++List.replicate m undef).getD (t - i) undef)
  | [],_,i,_,t=>trivial
  | x::l,[],i,h,t=>h.elim
  | x ::l,v::vs,i,h,t=>by
    simp only [argEnv]
    rw [eget_cons]
    split
    · rename_i e;subst e;simpa using h.1
    · rename_i hne
      have:=argEnv_rep (m:=m) (i+1) h.2 t
      by_cases h1:t<i
      · rw [if_pos (by omega)] at this;rw [if_pos h1];exact this
      · rw [if_neg (by omega)] at this
        rw [if_neg h1]
        obtain ⟨j,rfl⟩: ∃ j,t=i+1+j:=⟨t - (i+1),by omega⟩
        rw [show i+1+j - (i+1)=j by omega] at this
        rw [show i+1+j - i=j+1 by omega]
        exact this
theorem ga_init {vals:List Value} {args:List AV} {N:Nat} (hag:Ag σ w) (hv:VReps σ [] args vals) (hN:args.length≤N) :
    GA ⟨w,σ,[]⟩ N (St.init args) {tmps:=vals.toArray++Array.replicate (N - vals.toArray.size) undef,defers:=[]} w:=by
  have hlen:=vreps_length hv
  refine ⟨rfl,by simp;omega,σ,[],⟨hag,fun id ob hi=>by cases hi⟩,fun t=> ?_,rfl,fun id ob p hi=>(by cases hi),Below.refl _ _,Sig.le.refl _,fun b _=>rfl⟩
  have:=argEnv_rep (m:=N - vals.length) 0 hv t
  simp only [Nat.not_lt_zero,if_false,Nat.sub_zero] at this
  have e:((vals.toArray++Array.replicate (N - vals.toArray.size) undef).getD t undef)=(vals++List.replicate (N - vals.length) undef).getD t undef:=by
    rw [show vals.toArray++Array.replicate (N - vals.toArray.size) undef=(vals++List.replicate (N - vals.length) undef).toArray by simp]
    simp [Array.getD_eq_getD_getElem?,List.getD_eq_getElem?_getD]
  show VRep σ [] (eget (argEnv 0 args) t) ((vals.toArray++Array.replicate (N - vals.toArray.size) undef).getD t undef)
  rw [e];exact this
def tupVal:List Value→Value
  | [v]=>v
  | vs=> .tuple vs.toArray
theorem mapM_run {Q:ResultVar→Value→Prop} {g:ResultVar→Sem Value} : ∀ {l:List ResultVar},(∀ r∈l,∃ v,(g r).run P w= .ok v w∧Q r v)→∃ vs,(l.mapM g).run P w= .ok vs w∧All2 Q l vs
  | [],_=>⟨[],by simp,trivial⟩
  | r::l,h=>by
    obtain ⟨v,h1,h2⟩:=h r (by simp)
    obtain ⟨vs,h3,h4⟩:=mapM_run (l:=l) fun r hr=>h r (by simp [hr])
    refine ⟨v::vs,?_,h2,h4⟩
    rw [List.mapM_cons]
    simp only [Sem.run_bind,h1,Result.andThen_ok,h3,Sem.run_pure]
theorem results_run {fn:Func} {tmps:Array Value} {Q:ResultVar→Value→Prop}
    (h: ∀ r∈fn.results.toList,∃ v,(match r with | .tmp t=>(pure (tmps.getD t undef):Sem Value) | .cell a t=>do loadVar t (← asAddr (tmps.getD a undef))).run P w= .ok v w∧Q r v) :
    ∃ vs,(results fn tmps).run P w= .ok (tupVal vs) w∧All2 Q fn.results.toList vs:=by
  obtain ⟨vs,h1,h2⟩:=mapM_run h
  refine ⟨vs,?_,h2⟩
  have e:fn.results=fn.results.toList.toArray:=by simp
  unfold results
  rw [e,List.mapM_toArray]
  simp only [Sem.run_bind,Sem.run_map]
  refine (congrArg (fun z=>(Result.andThen z fun (a:List Value) w'=>Result.ok a.toArray w').andThen fun (a:Array Value) w'=>Sem.run P (pure (if h:a.size=1 then a[0] else Value.tuple a)) w') h1).trans ?_
  match vs with
  | []=>rfl
  | [v]=>rfl
  | v::u::vs=>rfl
theorem resAll_rep {τ:Sig} {fn:Func} {vs:List Value} (h:All2 (fun r v=>VRep τ [] (resOne T st r) v) fn.results.toList vs):VRep τ [] (resAll T fn st) (tupVal vs):=by
  unfold resAll
  generalize fn.results.toList=l at h
  match l,vs,h with
  | [],[],_=>exact ⟨[],rfl,trivial⟩
  | [r],[v],h=>exact h.1
  | r ::s::l,v::u::vs,h =>
    refine ⟨_,rfl,?_⟩
    rw [vreps_all2]
    have: ∀ {l:List ResultVar} {vs:List Value},All2 (fun r v=>VRep τ [] (resOne T st r) v) l vs→All2 (VRep τ []) (l.map (resOne T st)) vs:=by
      intro l
      induction l with
      | nil=>intro vs h;cases vs with | nil=>trivial | cons=>exact h.elim
      | cons x l ih=>intro vs h;cases vs with | nil=>exact h.elim | cons v vs=>exact ⟨h.1,ih h.2⟩
    exact this h
theorem fn_ok (R:Rules P T) {f:FuncId} {fn:Func} {c:Code} (hf:P.funcs[f]? =some fn) (hb:fn.body=some c) (hok:codeOk fn.ntmps c=true)
    {args:List AV} (hl:args.length≤fn.ntmps) {q:Option Prop} {u:AV} (h:goodArgs args→Opt q→afun T fn args (fun v=>v=u)):FnOk P f args (none,q,u):=by
  intro σ vals w hag hv
  refine ⟨trivial,fun hq=> ?_⟩
  have hga:=ga_init (N:=fn.ntmps) hag hv hl
  have hk:=h (vreps_good hv) hq
  simp only [afun,hb,St.forceAll_eq] at hk
  refine (callsIn_of_wp (F:=Fence.wide) (n:=0) hf hb trivial ?_).calls (fun _ _ hd=>by cases hd)
  rw [← FR.none]
  refine acode_wp R c hok hga hk fun e st' a' w' hp h'=> ?_
  have fin:(match fn.results.toList.all (resOk T st') with | true=>resAll T fn st'=u | false=>False)→a'.defers=[]∧∃ v,(results fn a'.tmps).run P w'= .ok v w'∧∃ v' σ',(Ending.returned v)= .returned v'∧σ.le σ'∧Ag σ' w'∧
      (∀ b,b<w.heap.size→σ' b=σ b)∧VRep σ' [] u v'∧Below w.heap.size w w':=by
    intro hu
    split at hu
    case h_2=>exact hu.elim
    rename_i hallok
    obtain ⟨σ1,β1,hg⟩:=h'.gg
    have hview: ∀ {x:AV} {v:Value},VRep σ1 β1 x v→VRep (fun b=>if b<w.heap.size then σ b else w'.heap[b]?) [] (x.viewT T st'.hp) v:=fun {x v} hx=>by
      refine AV.viewT_rep_at (fun b o e=> ?_) (fun id ob p hi hp=> ?_) hg.mem hx
      · split
        · rename_i hlt
          rw [hg.grew.2 b hlt] at e;exact ⟨o,e,.refl⟩
        · exact hg.mem.ag _ _ e
      · have:=(hg.sep _ _ _ hi hp).2.1
        dsimp only at this
        rw [if_neg (by omega)]
    obtain ⟨vs,hrun,hall⟩:=results_run (P:=P) (w:=w') (fn:=fn) (tmps:=a'.tmps) (Q:=fun r v=>VRep (fun b=>if b<w.heap.size then σ b else w'.heap[b]?) [] (resOne T st' r) v) (fun r hr=>by
      have hro:=List.all_eq_true.1 hallok r hr
      cases r with
      | tmp t=>exact ⟨_,rfl,hview (hg.env t)⟩
      | cell a t =>
        simp only [resOk] at hro
        simp only [resOne]
        have hx:=hg.env a
        split at hro
        · rename_i id i k hea
          rw [hea] at hx
          split at hro
          · rename_i v hv
            obtain ⟨p,_,hptr,_⟩:=hx
            obtain ⟨_,hrun⟩:=cLoad_sound (w:=w') R.ty R.one hg.mem (t:=t) (hg.env a) (p:=none) (q:=none) (v:=v) (by rw [hea];exact hv)
            obtain ⟨val,h1,h2⟩:=hrun trivial
            refine ⟨val,?_,hview h2⟩
            rw [hptr] at h1 ⊢
            rw [loadAt_run] at h1
            simp only [asAddr,Sem.run_bind,Sem.run_pure,Result.andThen_ok]
            exact h1
          · cases hro
        · cases hro)
    refine ⟨h'.defers,_,hrun,_,(fun b=>if b<w.heap.size then σ b else w'.heap[b]?),rfl,fun b o e=> ?_,fun b o e=> ?_,fun b hb=>by simp [hb],by rw [← hu];exact resAll_rep hall,hg.bel⟩
    · have:b<w.heap.size:=hag.lt e
      exact ⟨o,by simp [this,e],.refl⟩
    · dsimp only at e
      split at e
      · rename_i hlt
        rw [← show σ1 b=σ b from hg.grew.2 b hlt] at e
        exact hg.mem.ag _ _ e
      · exact ⟨o,e,.refl⟩
  cases e with
  | normal=>simp only [post,AV.force_eq] at hp;exact fin hp
  | ret=>simp only [post,AV.force_eq] at hp;exact fin hp
  | _=>exact hp.elim
theorem findAt_get {i:Nat} : ∀ {l:List Nat} {n m:Nat},findAt i l n=some m→∃ j,m=n+j∧l[j]? =some i
  | [],_,_,h=>by cases h
  | k ::r,n,m,h=>by
    simp only [findAt] at h
    split at h
    · rename_i hb;cases h;exact ⟨0,rfl,by simp [Nat.eq_of_beq_eq_true hb]⟩
    · obtain ⟨j,e1,e2⟩:=findAt_get h
      exact ⟨j+1,by omega,by simpa using e2⟩
theorem ARep.ren {ids:List Nat} {a:AS} {v:Value} (h:ARep σ β a v):ARep σ (ids.map fun i=>(β[i]?).getD none) (renAS ids a) v:=by
  cases a with
  | own i s n =>
    simp only [renAS]
    split
    · rename_i m hm
      obtain ⟨j,e1,e2⟩:=findAt_get hm
      rw [Nat.zero_add] at e1;subst e1
      simp only [ARep] at h ⊢
      rw [List.getElem?_map,e2]
      cases e:β[i]? with
      | none=>simp [e] at h
      | some q=>simpa [e] using h
    · trivial
  | ptr=>trivial
  | pti=>trivial
  | omp=>trivial
  | arr=>trivial
  | _=>exact h
theorem nodup_fresh {base:Nat} (hm: ∀ id ob,hget st.hp id=some ob→ObAt σ β w id ob)
    (hs: ∀ id ob p,hget st.hp id=some ob→β[id]? =some (some p)→σ p.b=none∧base≤p.b∧∀ id' ob' p',id'≠id→hget st.hp id'=some ob'→β[id']? =some (some p')→p'.b≠p.b) :
    ∀ (ids:List Nat),nodupB ids=true→rowsB st.hp ids=true→FreshL σ base w (obsOf st.hp ids) (ids.map fun i=>(β[i]?).getD none)
  | [],_,_=>trivial
  | i ::r,hn,hr=>by
    simp only [nodupB,Bool.and_eq_true,Bool.not_eq_true'] at hn
    simp only [rowsB] at hr
    split at hr
    case h_2=>cases hr
    rename_i o ho
    rw [Bool.and_eq_true] at hr
    have hob:=hm _ _ ho
    obtain ⟨x,hx⟩:=hob.place
    have e1:obsOf st.hp (i::r)=o::obsOf st.hp r:=by simp only [obsOf,ho]
    rw [e1,List.map_cons]
    have hrows: ∀ (ids:List Nat),rowsB st.hp ids=true→∀ j∈ids,∃ o,hget st.hp j=some o:=by
      intro ids
      induction ids with
      | nil=>intro _ j hj;cases hj
      | cons k l ih =>
        intro hh j hj
        simp only [rowsB] at hh
        split at hh
        · rename_i o' ho'
          rw [Bool.and_eq_true] at hh
          rcases List.mem_cons.1 hj with e | e
          · subst e;exact ⟨_,ho'⟩
          · exact ih hh.2 j e
        · cases hh
    refine ⟨?_,?_,fun p hp=> ?_,nodup_fresh hm hs r hn.2 hr.2⟩
    · cases o with
      | row e u xs=>exact ⟨e,u,xs,rfl⟩
      | flat=>cases hr.1
      | map=>cases hr.1
      | gmap=>cases hr.1
      | grow=>cases hr.1
      | fr=>cases hr.1
    · cases o with
      | row e u xs=>exact hob.move (by rw [hx];rfl)
      | flat=>cases hr.1
      | map=>cases hr.1
      | gmap=>cases hr.1
      | grow=>cases hr.1
      | fr=>cases hr.1
    · rw [hx] at hp
      have hp:x=some p:=hp
      subst hp
      obtain ⟨s1,s2,s3⟩:=hs _ _ _ ho hx
      refine ⟨s1,s2,fun q' hq' p' hp'=> ?_⟩
      obtain ⟨j,hj,rfl⟩:=List.mem_map.1 hq'
      obtain ⟨o',ho'⟩:=hrows r hr.2 j hj
      have hne:j≠i:=by
        intro e;subst e
        rw [memB_iff.2 hj] at hn;cases hn.1
      obtain ⟨y,hy⟩:=(hm _ _ ho').place
      rw [hy] at hp'
      have hp':y=some p':=hp'
      subst hp'
      exact s3 _ _ _ hne ho' hy
theorem rawAll_rep {τ:Sig} {γ:Places} {fn:Func} {vs:List Value} (h:All2 (fun r v=>VRep τ γ (rawOne T st r) v) fn.results.toList vs):VRep τ γ (rawAll T fn st) (tupVal vs):=by
  unfold rawAll
  generalize fn.results.toList=l at h
  match l,vs,h with
  | [],[],_=>exact ⟨[],rfl,trivial⟩
  | [r],[v],h=>exact h.1
  | r ::s::l,v::u::vs,h =>
    refine ⟨_,rfl,?_⟩
    rw [vreps_all2]
    have: ∀ {l:List ResultVar} {vs:List Value},All2 (fun r v=>VRep τ γ (rawOne T st r) v) l vs→All2 (VRep τ γ) (l.map (rawOne T st)) vs:=by
      intro l
      induction l with
      | nil=>intro vs h;cases vs with | nil=>trivial | cons=>exact h.elim
      | cons x l ih=>intro vs h;cases vs with | nil=>exact h.elim | cons v vs=>exact ⟨h.1,ih h.2⟩
    exact this h
theorem fn_okFG (R:Rules P T) {f:FuncId} {fn:Func} {c:Code} (hf:P.funcs[f]? =some fn) (hb:fn.body=some c) (hok:codeOk fn.ntmps c=true)
    {args:List AV} (hl:args.length≤fn.ntmps) {q:Option Prop} {Rp:AV→List Ob→Prop} (h:goodArgs args→Opt q→afunF T fn args Rp) (σ:Sig) (vals:List Value) (w:World) (hag:Ag σ w) (hv:VReps σ [] args vals) (hq:Opt q) :
      Calls P f vals.toArray w fun e w'=> ∃ u us v σ' β',Rp u us∧e= .returned v∧σ.le σ'∧Ag σ' w'∧
      (∀ b,b<w.heap.size→σ' b=σ b)∧VRep σ' β' u v∧FreshL σ' w.heap.size w' us β'∧Below w.heap.size w w':=by
  have hga:=ga_init (N:=fn.ntmps) hag hv hl
  have hk:=h (vreps_good hv) hq
  simp only [afunF,hb,St.forceAll_eq] at hk
  refine (callsIn_of_wp (F:=Fence.wide) (n:=0) hf hb trivial ?_).calls (fun _ _ hd=>by cases hd)
  rw [← FR.none]
  refine acode_wp R c hok hga hk fun e st' a' w' hp h'=> ?_
  have fin:(match fn.results.toList.all (resOk T st')&&(nodupB (rowIds (rawAll T fn st').parts)&&rowsB st'.hp (rowIds (rawAll T fn st').parts)) with
      | true=>Rp ((rawAll T fn st').mapAS (renAS (rowIds (rawAll T fn st').parts))) (obsOf st'.hp (rowIds (rawAll T fn st').parts))
      | false=>False)→a'.defers=[]∧∃ v,(results fn a'.tmps).run P w'= .ok v w'∧∃ u us v' σ' β',Rp u us∧(Ending.returned v)= .returned v'∧σ.le σ'∧Ag σ' w'∧
      (∀ b,b<w.heap.size→σ' b=σ b)∧VRep σ' β' u v'∧FreshL σ' w.heap.size w' us β'∧Below w.heap.size w w':=by
    intro hu
    split at hu
    case h_2=>exact hu.elim
    rename_i hallok
    rw [Bool.and_eq_true,Bool.and_eq_true] at hallok
    obtain ⟨hallok,hnd,hrows⟩:=hallok
    obtain ⟨σ1,β1,hg⟩:=h'.gg
    obtain ⟨vs,hrun,hall⟩:=results_run (P:=P) (w:=w') (fn:=fn) (tmps:=a'.tmps) (Q:=fun r v=>VRep σ1 β1 (rawOne T st' r) v) (fun r hr=>by
      have hro:=List.all_eq_true.1 hallok r hr
      cases r with
      | tmp t=>exact ⟨_,rfl,hg.env t⟩
      | cell a t =>
        simp only [resOk] at hro
        simp only [rawOne]
        have hx:=hg.env a
        split at hro
        · rename_i id i k hea
          rw [hea] at hx
          split at hro
          · rename_i v hv
            obtain ⟨p,_,hptr,_⟩:=hx
            obtain ⟨_,hrun⟩:=cLoad_sound (w:=w') R.ty R.one hg.mem (t:=t) (hg.env a) (p:=none) (q:=none) (v:=v) (by rw [hea];exact hv)
            obtain ⟨val,h1,h2⟩:=hrun trivial
            refine ⟨val,?_,h2⟩
            rw [hptr] at h1 ⊢
            rw [loadAt_run] at h1
            simp only [asAddr,Sem.run_bind,Sem.run_pure,Result.andThen_ok]
            exact h1
          · cases hro
        · cases hro)
    refine ⟨h'.defers,_,hrun,_,_,_,σ1,(rowIds (rawAll T fn st').parts).map fun i=>(β1[i]?).getD none,hu,rfl,hg.grew.1,hg.mem.ag,hg.grew.2,?_,?_,hg.bel⟩
    · exact (rawAll_rep hall).mapAS fun a v ha=>ARep.ren (ids:=rowIds (rawAll T fn st').parts) ha
    · exact nodup_fresh (w:=w') hg.mem.ob hg.sep _ hnd hrows
  cases e with
  | normal=>simp only [postF,AV.force_eq] at hp;exact fin hp
  | ret=>simp only [postF,AV.force_eq] at hp;exact fin hp
  | _=>exact hp.elim
theorem fn_okF (R:Rules P T) {f:FuncId} {fn:Func} {c:Code} (hf:P.funcs[f]? =some fn) (hb:fn.body=some c) (hok:codeOk fn.ntmps c=true)
    {args:List AV} (hl:args.length≤fn.ntmps) {q:Option Prop} {u:AV} {us:List Ob} (h:goodArgs args→Opt q→afunF T fn args (fun v obs=>v=u∧obs=us)):FnOkF P f args (none,q,u,us):=by
  intro σ vals w hag hv
  refine ⟨trivial,fun hq=>(fn_okFG R hf hb hok hl h σ vals w hag hv hq).mono ?_⟩
  rintro e w' ⟨u1,us1,v,σ',β',⟨rfl,rfl⟩,h2⟩
  exact ⟨v,σ',β',h2⟩
end
end Go.Vm
/- Contracts by data, and the checks of a table. -/
namespace Go.Vm
def Hold (p:Prop):Prop:=p
theorem Hold.out {p:Prop} (h:Hold p):p:=h
theorem Hold.intro {p:Prop} (h:p):Hold p:=h
def HoldEq (a b:AV):Prop:=a=b
theorem HoldEq.out {a b:AV} (h:HoldEq a b):a=b:=h
theorem HoldEq.intro {a b:AV} (h:a=b):HoldEq a b:=h
def HoldOr (a b:Prop):Prop:=a∨b
theorem HoldOr.out {a b:Prop} (h:HoldOr a b):a∨b:=h
theorem HoldOr.intro {a b:Prop} (h:a∨b):HoldOr a b:=h
def HoldOb (a b:Ob):Prop:=a=b
theorem HoldOb.out {a b:Ob} (h:HoldOb a b):some a=some b:=congrArg some h
theorem HoldOb.intro {a b:Ob} (h:a=b):HoldOb a b:=h
def HoldObs (a b:List Ob):Prop:=a=b
theorem HoldObs.out {a b:List Ob} (h:HoldObs a b):a=b:=h
theorem HoldObs.intro {a b:List Ob} (h:a=b):HoldObs a b:=h
attribute [irreducible] Hold HoldEq HoldOr HoldOb HoldObs
theorem HoldObs.row {e:ETy} {u:TypeId} {m n:List e.T} (h:m=n):HoldObs [.row e u m] [.row e u n]:=HoldObs.intro (by rw [h])
theorem HoldOb.row {e:ETy} {u:TypeId} {m n:List e.T} (h:m=n):HoldOb (.row e u m) (.row e u n):=HoldOb.intro (by rw [h])
theorem HoldOb.map {k v:ETy} {m n:List (k.T×v.T)} (h:m=n):HoldOb (.map k v m) (.map k v n):=HoldOb.intro (by rw [h])
theorem HoldOb.gmap {k e:ETy} {m n:List (k.T×List e.T)} (h:m=n):HoldOb (.gmap k e m) (.gmap k e n):=HoldOb.intro (by rw [h])
theorem HoldOb.grow {e:ETy} {u:TypeId} {m n:List (List e.T)} (h:m=n):HoldOb (.grow e u m) (.grow e u n):=HoldOb.intro (by rw [h])
theorem HoldEq.int {k:IntKind} {m n:Int} (h:m=n):HoldEq (.s (.int k m)) (.s (.int k n)):=HoldEq.intro (by rw [h])
theorem HoldEq.bool {m n:Bool} (h:m=n):HoldEq (.s (.bool m)) (.s (.bool n)):=HoldEq.intro (by rw [h])
theorem HoldEq.sl {e:ETy} {m n:List e.T} (h:m=n):HoldEq (.s (.sl e m)) (.s (.sl e n)):=HoldEq.intro (by rw [h])
theorem pair_eta {α β:Type _} (p:α×β):(p.1,p.2)=p:=rfl
theorem rec_self {α:Sort _} {a:α} {motive:(b:α)→a=b→Sort _} (x:motive a rfl) (h:a=a): @Eq.rec α a motive x a h=x:=rfl
def ETy.av (e:ETy) (x:e.T):AV :=
  match e.isAgg with
  | true=> .agg (e.cells x)
  | false=>match e.cells x with
    | [a]=> .s a
    | _=> .junk
def ETy.of (e:ETy) (v:AV):Option e.T :=
  match v.isAgg==e.isAgg,v.flat with
  | true,some l=>e.dec l
  | _,_=>none
section
variable {P:Program} {T:Tab} {σ:Sig} {β:Places}
theorem ETy.cells_one: ∀ {e:ETy} {x:e.T},e.isAgg=false→∃ a,e.cells x=[a]
  | .int _,_,_=>⟨_,rfl⟩
  | .bool,_,_=>⟨_,rfl⟩
  | .sl _,_,_=>⟨_,rfl⟩
  | .mp _ _,_,_=>⟨_,rfl⟩
  | .pt _,_,_=>⟨_,rfl⟩
  | .fnc,_,_=>⟨_,rfl⟩
theorem ETy.av_rep {e:ETy} {x:e.T} {ds:List Value} (h:ERep σ e x ds):VRep σ β (e.av x) (keyVal e ds):=by
  unfold ETy.av
  cases hg:e.isAgg with
  | true=>exact ⟨ds,keyVal_agg h.length hg,h.cells⟩
  | false =>
    obtain ⟨a,ha⟩:=ETy.cells_one (x:=x) hg
    have hc:=h.cells (β:=β)
    rw [ha] at hc ⊢
    obtain ⟨d,rfl,hd⟩:=hc.len_one
    rw [keyVal_one hg]
    exact hd
theorem ETy.of_rep {e:ETy} {v:AV} {x:e.T} {val:Value} (h:e.of v=some x) (hv:VRep σ β v val):ERep σ e x val.cells.toList∧VRep σ β (e.av x) val:=by
  unfold ETy.of at h
  split at h
  · rename_i hb hl
    have h1:=ETy.dec_sound h (flat_rep hv hl)
    refine ⟨h1,?_⟩
    have h2:=keyVal_of hv hl (by simpa using hb) h1.length
    have h3:=ETy.av_rep (β:=β) h1
    rw [← h2] at h3
    exact h3
  · cases h
theorem FnOk.imp {f:FuncId} {args args':List AV} {r:Res} (h:FnOk P f args' r) (hi: ∀ σ vals,VReps σ [] args vals→VReps σ [] args' vals):FnOk P f args r :=
  fun σ vals w h1 h2=>h σ vals w h1 (hi σ vals h2)
def con1 {ρ:Type} (a:ETy) (f:a.T→Option ρ):List AV→Option ρ
  | [u]=>match a.of u with
    | some x=>f x
    | _=>none
  | _=>none
def con2 {ρ:Type} (a b:ETy) (f:a.T→b.T→Option ρ):List AV→Option ρ
  | [u,v]=>match a.of u,b.of v with
    | some x,some y=>f x y
    | _,_=>none
  | _=>none
def con3 {ρ:Type} (a b c:ETy) (f:a.T→b.T→c.T→Option ρ):List AV→Option ρ
  | [u,v,w]=>match a.of u,b.of v,c.of w with
    | some x,some y,some z=>f x y z
    | _,_,_=>none
  | _=>none
def con4 {ρ:Type} (a b c d:ETy) (f:a.T→b.T→c.T→d.T→Option ρ):List AV→Option ρ
  | [u,v,w,s]=>match a.of u,b.of v,c.of w,d.of s with
    | some x,some y,some z,some q=>f x y z q
    | _,_,_,_=>none
  | _=>none
theorem con1_ok {a:ETy} {f:a.T→Option Res} {n:FuncId} (h: ∀ x r,f x=some r→FnOk P n [a.av x] r): ∀ args r,con1 a f args=some r→FnOk P n args r:=by
  intro args r e
  unfold con1 at e
  split at e
  · split at e
    · rename_i x hx
      refine (h _ _ e).imp fun σ vals hv=> ?_
      match vals,hv with
      | [v],hv=>exact ⟨(ETy.of_rep hx hv.1).2,trivial⟩
    · cases e
  · cases e
theorem con2_ok {a b:ETy} {f:a.T→b.T→Option Res} {n:FuncId} (h: ∀ x y r,f x y=some r→FnOk P n [a.av x,b.av y] r): ∀ args r,con2 a b f args=some r→FnOk P n args r:=by
  intro args r e
  unfold con2 at e
  split at e
  · split at e
    · rename_i x y hx hy
      refine (h _ _ _ e).imp fun σ vals hv=> ?_
      match vals,hv with
      | [v,w],hv=>exact ⟨(ETy.of_rep hx hv.1).2,(ETy.of_rep hy hv.2.1).2,trivial⟩
    · cases e
  · cases e
theorem con3_ok {a b c:ETy} {f:a.T→b.T→c.T→Option Res} {n:FuncId} (h: ∀ x y z r,f x y z=some r→FnOk P n [a.av x,b.av y,c.av z] r): ∀ args r,con3 a b c f args=some r→FnOk P n args r:=by
  intro args r e
  unfold con3 at e
  split at e
  · split at e
    · rename_i x y z hx hy hz
      refine (h _ _ _ _ e).imp fun σ vals hv=> ?_
      match vals,hv with
      | [v,w,u],hv=>exact ⟨(ETy.of_rep hx hv.1).2,(ETy.of_rep hy hv.2.1).2,(ETy.of_rep hz hv.2.2.1).2,trivial⟩
    · cases e
  · cases e
theorem con4_ok {a b c d:ETy} {f:a.T→b.T→c.T→d.T→Option Res} {n:FuncId} (h: ∀ x y z s r,f x y z s=some r→FnOk P n [a.av x,b.av y,c.av z,d.av s] r): ∀ args r,con4 a b c d f args=some r→FnOk P n args r:=by
  intro args r e
  unfold con4 at e
  split at e
  · split at e
    · rename_i x y z s hx hy hz hs
      refine (h _ _ _ _ _ e).imp fun σ vals hv=> ?_
      match vals,hv with
      | [v,w,u,t],hv=>exact ⟨(ETy.of_rep hx hv.1).2,(ETy.of_rep hy hv.2.1).2,(ETy.of_rep hz hv.2.2.1).2,(ETy.of_rep hs hv.2.2.2.1).2,trivial⟩
    · cases e
  · cases e
theorem FnOkF.imp {f:FuncId} {args args':List AV} {r:ResF} (h:FnOkF P f args' r) (hi: ∀ σ vals,VReps σ [] args vals→VReps σ [] args' vals):FnOkF P f args r :=
  fun σ vals w h1 h2=>h σ vals w h1 (hi σ vals h2)
theorem con1_okG {ρ:Type} {Ok:List AV→ρ→Prop} (hi: ∀ args args' r,Ok args' r→(∀ σ vals,VReps σ [] args vals→VReps σ [] args' vals)→Ok args r) {a:ETy} {f:a.T→Option ρ} (h: ∀ x r,f x=some r→Ok [a.av x] r): ∀ args r,con1 a f args=some r→Ok args r:=by
  intro args r e
  unfold con1 at e
  split at e
  · split at e
    · rename_i x hx
      refine hi _ _ _ (h _ _ e) fun σ vals hv=> ?_
      match vals,hv with
      | [v],hv=>exact ⟨(ETy.of_rep hx hv.1).2,trivial⟩
    · cases e
  · cases e
theorem con1_okF {a:ETy} {f:a.T→Option ResF} {n:FuncId} (h: ∀ x r,f x=some r→FnOkF P n [a.av x] r): ∀ args r,con1 a f args=some r→FnOkF P n args r :=
  con1_okG (Ok:=FnOkF P n) (fun _ _ _ h hi=>FnOkF.imp h hi) h
theorem con2_okG {ρ:Type} {Ok:List AV→ρ→Prop} (hi: ∀ args args' r,Ok args' r→(∀ σ vals,VReps σ [] args vals→VReps σ [] args' vals)→Ok args r) {a b:ETy} {f:a.T→b.T→Option ρ} (h: ∀ x y r,f x y=some r→Ok [a.av x,b.av y] r): ∀ args r,con2 a b f args=some r→Ok args r:=by
  intro args r e
  unfold con2 at e
  split at e
  · split at e
    · rename_i x y hx hy
      refine hi _ _ _ (h _ _ _ e) fun σ vals hv=> ?_
      match vals,hv with
      | [v,w],hv=>exact ⟨(ETy.of_rep hx hv.1).2,(ETy.of_rep hy hv.2.1).2,trivial⟩
    · cases e
  · cases e
theorem con2_okF {a b:ETy} {f:a.T→b.T→Option ResF} {n:FuncId} (h: ∀ x y r,f x y=some r→FnOkF P n [a.av x,b.av y] r): ∀ args r,con2 a b f args=some r→FnOkF P n args r :=
  con2_okG (Ok:=FnOkF P n) (fun _ _ _ h hi=>FnOkF.imp h hi) h
theorem con3_okG {ρ:Type} {Ok:List AV→ρ→Prop} (hi: ∀ args args' r,Ok args' r→(∀ σ vals,VReps σ [] args vals→VReps σ [] args' vals)→Ok args r) {a b c:ETy} {f:a.T→b.T→c.T→Option ρ} (h: ∀ x y z r,f x y z=some r→Ok [a.av x,b.av y,c.av z] r): ∀ args r,con3 a b c f args=some r→Ok args r:=by
  intro args r e
  unfold con3 at e
  split at e
  · split at e
    · rename_i x y z hx hy hz
      refine hi _ _ _ (h _ _ _ _ e) fun σ vals hv=> ?_
      match vals,hv with
      | [v,w,u],hv=>exact ⟨(ETy.of_rep hx hv.1).2,(ETy.of_rep hy hv.2.1).2,(ETy.of_rep hz hv.2.2.1).2,trivial⟩
    · cases e
  · cases e
theorem con3_okF {a b c:ETy} {f:a.T→b.T→c.T→Option ResF} {n:FuncId} (h: ∀ x y z r,f x y z=some r→FnOkF P n [a.av x,b.av y,c.av z] r): ∀ args r,con3 a b c f args=some r→FnOkF P n args r :=
  con3_okG (Ok:=FnOkF P n) (fun _ _ _ h hi=>FnOkF.imp h hi) h
theorem lget_mem {α:Type} : ∀ {l:List (Nat×α)} {t:Nat} {x:α},lget l t=some x→(t,x)∈l
  | [],_,_,h=>by cases h
  | (k,v)::r,t,x,h=>by
    simp only [lget] at h
    split at h
    · rename_i e
      cases h
      rw [Nat.eq_of_beq_eq_true e];simp
    · exact List.mem_cons_of_mem _ (lget_mem h)
def stoodB (P:Program) (t:TypeId) (d:TypeDesc):Bool:=match d with
  | .struct fs => !P.stoodInHeld t && fs.toList.all fun f => f.name != "_"
  | _=>true
theorem stoodB_spec {t : TypeId} {d : TypeDesc} (h : stoodB P t d = true) : ∀ fs, d = .struct fs → P.stoodInHeld t = false ∧ ∀ f ∈ fs.toList, f.name ≠ "_" := by
  rintro fs rfl
  simp only [stoodB,Bool.and_eq_true,Bool.not_eq_true',List.all_eq_true,bne_iff_ne,ne_eq] at h
  exact h
def AllTy (P:Program):List (Nat×TI)→Prop
  | []=>True
  | x::r=>TyOk P x.1 x.2∧AllTy P r
theorem AllTy.cons {t:Nat} {ti:TI} {r:List (Nat×TI)} (h1:P.underlying t=some ti.desc) (h2:(P.info? t).map (fun i=>(i.size,i.bytes,i.zero.map fun z=>z.cells.toList))=some (ti.size,ti.bytes,some ti.zl))
    (h3:ti.zl.all cellOk=true) (h4:ti.zl.length=ti.size) (h5:stoodB P t ti.desc=true) (h:AllTy P r):AllTy P ((t,ti)::r):=⟨⟨h1,h2,h3,h4,stoodB_spec h5⟩,h⟩
theorem AllTy.mem: ∀ {l:List (Nat×TI)},AllTy P l→∀ x∈l,TyOk P x.1 x.2
  | _::_,h,x,hx=>by
    cases List.mem_cons.1 hx with
    | inl e=>subst e;exact h.1
    | inr e=>exact AllTy.mem h.2 x e
theorem tabOk_of (h:AllTy P T.ty):TabOk P T:=fun _ _ e=>h.mem _ (lget_mem e)
theorem tabOne_of (h:(T.ty.all fun x=>isAggD x.2.desc|| x.2.size==1)=true):TabOne T:=fun t ti e hn=>by
  have:=List.all_eq_true.1 h _ (lget_mem e)
  simpa [hn] using this
def AllEty:List (Nat×TI)→Prop
  | []=>True
  | x::r=>(∀ e,x.2.ety=some e→x.2.zl=e.zeroVals∧x.2.size=e.size)∧AllEty r
theorem AllEty.mem: ∀ {l:List (Nat×TI)},AllEty l→∀ x∈l,∀ e,x.2.ety=some e→x.2.zl=e.zeroVals∧x.2.size=e.size
  | _::_,h,x,hx=>by
    cases List.mem_cons.1 hx with
    | inl e=>subst e;exact h.1
    | inr e=>exact AllEty.mem h.2 x e
theorem tabEty_of (h:AllEty T.ty):TabEty T:=fun _ _ e=>h.mem _ (lget_mem e)
theorem ety_some {ti:TI} {e':ETy} (h:ti.ety=some e') (hz:ti.zl=e'.zeroVals) (hs:ti.size=e'.size): ∀ e,ti.ety=some e→ti.zl=e.zeroVals∧ti.size=e.size:=fun e he=>by
  rw [h] at he;cases he;exact ⟨hz,hs⟩
theorem ety_none {ti:TI} (h:ti.ety=none): ∀ e,ti.ety=some e→ti.zl=e.zeroVals∧ti.size=e.size:=fun e he=>by rw [h] at he;cases he
def AllMap (P:Program) (T:Tab):List (Nat×TI)→Prop
  | []=>True
  | x::r=>(∀ kt u,x.2.desc= .map kt u→∀ ki ui k e,T.info kt=some ki→T.info u=some ui→ki.ety=some k→ui.ety=some e→MapOk P kt u k e)∧AllMap P T r
theorem AllMap.mem: ∀ {l:List (Nat×TI)},AllMap P T l→∀ x∈l,∀ kt u,x.2.desc= .map kt u→∀ ki ui k e,T.info kt=some ki→T.info u=some ui→ki.ety=some k→ui.ety=some e→MapOk P kt u k e
  | _::_,h,x,hx=>by
    cases List.mem_cons.1 hx with
    | inl e=>subst e;exact h.1
    | inr e=>exact AllMap.mem h.2 x e
theorem tabMap_of (h:AllMap P T T.ty):TabMap P T:=fun t kt u hd=>by
  unfold Tab.desc at hd
  cases e:lget T.ty t with
  | none=>simp [e] at hd
  | some ti=>simp only [e] at hd;exact h.mem _ (lget_mem e) kt u hd
def isMapD:TypeDesc→Bool
  | .map _ _=>true
  | _=>false
theorem map_not {d:TypeDesc} (h:isMapD d=false) {Q:Nat→Nat→Prop} : ∀ kt u,d= .map kt u→Q kt u:=fun kt u e=>by subst e;cases h
theorem map_is {kt u:TypeId} {ki ui:TI} {k e:ETy} (h1:T.info kt=some ki) (h2:T.info u=some ui) (h3:ki.ety=some k) (h4:ui.ety=some e) (hm:MapOk P kt u k e) {d:TypeDesc} (hd:d= .map kt u) :
    ∀ kt u,d= .map kt u→∀ ki ui k e,T.info kt=some ki→T.info u=some ui→ki.ety=some k→ui.ety=some e→MapOk P kt u k e:=by
  intro kt' u' hd' ki' ui' k' e' g1 g2 g3 g4
  rw [hd] at hd';cases hd'
  rw [h1] at g1;cases g1
  rw [h2] at g2;cases g2
  rw [h3] at g3;cases g3
  rw [h4] at g4;cases g4
  exact hm
def AllFn (P:Program):List (Nat×(List AV→Option Res))→Prop
  | []=>True
  | x :: r => ((∀ args r, x.2 args = some r → FnOk P x.1 args r) ∧ ∃ fn, P.funcs[x.1]? = some fn ∧ (fn.name == "runtime.NumGoroutine") = false ∧ fn.body.isNone = false) ∧ AllFn P r
theorem AllFn.mem : ∀ {l : List (Nat × (List AV → Option Res))}, AllFn P l → ∀ x ∈ l, (∀ args r, x.2 args = some r → FnOk P x.1 args r) ∧ ∃ fn, P.funcs[x.1]? = some fn ∧ (fn.name == "runtime.NumGoroutine") = false ∧ fn.body.isNone = false
  | _::_,h,x,hx=>by
    cases List.mem_cons.1 hx with
    | inl e=>subst e;exact h.1
    | inr e=>exact AllFn.mem h.2 x e
theorem tabFn_of (h:AllFn P T.fn):TabFn P T:=⟨fun _ _ e=>(h.mem _ (lget_mem e)).1,fun _ _ e=>(h.mem _ (lget_mem e)).2⟩
def FrOk (P:Program) (f:FuncId):FrE→Prop
  | .res c=> ∀ args r,c args=some r→FnOkF P f args r
  | .run h=>RunOk P f h
def AllFr (P:Program):List (Nat×FrE)→Prop
  | []=>True
  | x :: r => (FrOk P x.1 x.2 ∧ ∃ fn, P.funcs[x.1]? = some fn ∧ (fn.name == "runtime.NumGoroutine") = false ∧ fn.body.isNone = false) ∧ AllFr P r
theorem AllFr.mem : ∀ {l : List (Nat × FrE)}, AllFr P l → ∀ x ∈ l, FrOk P x.1 x.2 ∧ ∃ fn, P.funcs[x.1]? = some fn ∧ (fn.name == "runtime.NumGoroutine") = false ∧ fn.body.isNone = false
  | _::_,h,x,hx=>by
    cases List.mem_cons.1 hx with
    | inl e=>subst e;exact h.1
    | inr e=>exact AllFr.mem h.2 x e
theorem tabFr_of (h:AllFr P T.fr):TabFr P T:=⟨fun _ _ e=>(h.mem _ (lget_mem e)).1,fun _ _ e=>(h.mem _ (lget_mem e)).1,fun _ _ e=>(h.mem _ (lget_mem e)).2⟩
theorem rules_of {ty:List (Nat×TI)} (h1:AllTy P ty) (h2:(ty.all fun x=>isAggD x.2.desc|| x.2.size==1)=true) (h3:AllEty ty) (h4: ∀ fn fr,AllMap P ⟨ty,fn,fr⟩ ty) (h5:P.follows .mixedOrders=true)
    {fn:List (Nat×(List AV→Option Res))} {fr:List (Nat×FrE)} (hf:AllFn P fn) (hr:AllFr P fr):Rules P ⟨ty,fn,fr⟩ :=
  ⟨tabOk_of h1,tabOne_of h2,tabEty_of h3,tabFn_of hf,tabFr_of hr,h5,tabMap_of (h4 fn fr)⟩
def fnCheck (fn:Func) (m:Nat):Bool :=
  match fn.body with
  | some c=>codeOk fn.ntmps c&&Nat.ble m fn.ntmps
  | _=>false
theorem fn_by (R:Rules P T) {f:FuncId} {fn:Func} (hf:P.funcs[f]? =some fn) {args:List AV} (hchk:fnCheck fn args.length=true) {q:Option Prop} {u:AV} (h:goodArgs args→Opt q→afun T fn args (fun v=>v=u)):FnOk P f args (none,q,u):=by
  unfold fnCheck at hchk
  split at hchk
  · rename_i c hc
    simp only [Bool.and_eq_true] at hchk
    exact fn_ok R hf hc hchk.1 (Nat.le_of_ble_eq_true hchk.2) h
  · cases hchk
theorem fn_byF (R:Rules P T) {f:FuncId} {fn:Func} (hf:P.funcs[f]? =some fn) {args:List AV} (hchk:fnCheck fn args.length=true) {q:Option Prop} {u:AV} {us:List Ob} (h:goodArgs args→Opt q→afunF T fn args (fun v obs=>v=u∧obs=us)):FnOkF P f args (none,q,u,us):=by
  unfold fnCheck at hchk
  split at hchk
  · rename_i c hc
    simp only [Bool.and_eq_true] at hchk
    exact fn_okF R hf hc hchk.1 (Nat.le_of_ble_eq_true hchk.2) h
  · cases hchk
def FnRowF (P : Program) (f : Nat) (c : List AV → Option ResF) : Prop := (∀ args r, c args = some r → FnOkF P f args r) ∧ ∃ fn, P.funcs[f]? = some fn ∧ (fn.name == "runtime.NumGoroutine") = false ∧ fn.body.isNone = false
theorem take_one {α:Type _} (d w:α):List.take 1 (List.drop 0 ((List.replicate 1 d).set 0 w))=[w]:=rfl
theorem take_one' {α:Type _} (w:α):List.take 1 (List.drop 0 [w])=[w]:=rfl
theorem set_one {α:Type _} (d w:α):(List.replicate 1 d).set 0 w=[w]:=rfl
theorem take_all {α:Type _} (l:List α):List.take l.length (List.drop 0 l)=l:=by rw [List.drop_zero,List.take_length]
theorem HoldEq.own {i s m n:Nat} (h:m=n):HoldEq (.s (.own i s m)) (.s (.own i s n)):=HoldEq.intro (by rw [h])
theorem HoldEq.ownS {i s s' m n:Nat} (hs:s=s') (h:m=n):HoldEq (.s (.own i s m)) (.s (.own i s' n)):=HoldEq.intro (by rw [hs,h])
end
def firstReg:Code→Nat
  | .region k _ _=>k
  | .seq a _=>firstReg a
  | .block _ c=>firstReg c
  | .cond _ a _=>firstReg a
  | _=>1000000
theorem atReg {T:Tab} {c:Code} {K:Exit→St→Prop} {st:St} {Q:Prop} (k:Nat) (_:firstReg c=k) (h:Or (∃ n,rounds (acode T c) K n st) Q):Or (∃ n,rounds (acode T c) K n st) Q:=h
theorem qN {q k:Prop} (h:q) (h':k):Need q k:=Need.intro h h'
theorem qH {q k:Prop} (h:Hold q) (h':k):Need q k:=Need.intro (Hold.out h) h'
theorem qG {p k:Prop} (h:p→k):Give p k:=Give.intro h
theorem qB {p q:Prop} (h:p) (h':q):Both p q:=Both.intro h h'
theorem qa {a b:Bool} {x y:Prop} (h:BIf a (BIf b x y) y):BIf (a&&b) x y:=BIf.and h
theorem qo {a b:Bool} {x y:Prop} (h:BIf a x (BIf b x y)):BIf (a|| b) x y:=BIf.or h
theorem qe {α:Type} [BEq α] [LawfulBEq α] {a b:α} {x y:Prop} (h1:a=b→x) (h2:a≠b→y):BIf (a==b) x y:=BIf.eqi h1 h2
theorem qn {α:Type} [BEq α] [LawfulBEq α] {a b:α} {x y:Prop} (h1:a≠b→x) (h2:a=b→y):BIf (a != b) x y:=BIf.nei h1 h2
theorem qd {p x y:Prop} [Decidable p] (h1:p→x) (h2: ¬p→y):BIf (decide p) x y:=BIf.dec h1 h2
theorem qt {b:Bool} {x y:Prop} (h:BIf b y x):BIf (!b) x y:=BIf.nt h
theorem qE {a b:AV} {q:Prop} (h:HoldEq a b) (h':q):a=b∧q:=And.intro (HoldEq.out h) h'
theorem qO {a b:Ob} {q:Prop} (h:HoldOb a b) (h':q):some a=some b∧q:=And.intro (HoldOb.out h) h'
theorem qK {b:Bool} {p:Prop} (h:b=true) (h':p):KCheck b p:=KCheck.intro h h'
theorem qs {a b:List Ob} (h:HoldObs a b):a=b:=HoldObs.out h
theorem qr {a b:Prop} (h:HoldOr a b):a∨b:=HoldOr.out h
theorem qq {a b:AV} (h:HoldEq a b):a=b:=HoldEq.out h
theorem qh {p:Prop} (h:p):Hold p:=Hold.intro h
theorem qn1 {α:Type _} {a:α} :[a].length=1:=rfl
theorem qn2 (n:Nat):((n:Int)).toNat=n:=Int.toNat_natCast n
theorem qn3 {α:Type _} {a d:α} {l:List α} :(a::l).getD 0 d=a:=rfl
theorem qn4 {α:Type _} {a d:α} {l:List α} {n:Nat} :(a::l).getD (n+1) d=l.getD n d:=rfl
theorem gE {α:Type _} {l:List α} {i:Nat} (h:i<l.length):l[i]? =some l[i]:=List.getElem?_eq_getElem h
theorem gdE {α:Type _} (l:List α) (i:Nat) (a:α):l.getD i a=(l[i]?).getD a:=List.getD_eq_getElem?_getD
theorem qz1 {k:IntKind} {m n:Int} (h:m=n):HoldEq (.s (.int k m)) (.s (.int k n)):=HoldEq.int h
theorem qz2 {m n:Bool} (h:m=n):HoldEq (.s (.bool m)) (.s (.bool n)):=HoldEq.bool h
theorem qz3 {e:ETy} {m n:List e.T} (h:m=n):HoldEq (.s (.sl e m)) (.s (.sl e n)):=HoldEq.sl h
theorem qz4 {i s m n:Nat} (h:m=n):HoldEq (.s (.own i s m)) (.s (.own i s n)):=HoldEq.own h
theorem qz5 {i s s' m n:Nat} (hs:s=s') (h:m=n):HoldEq (.s (.own i s m)) (.s (.own i s' n)):=HoldEq.ownS hs h
theorem qz6 {e:ETy} {u:TypeId} {m n:List e.T} (h:m=n):HoldOb (.row e u m) (.row e u n):=HoldOb.row h
theorem qz7 {k v:ETy} {m n:List (k.T×v.T)} (h:m=n):HoldOb (.map k v m) (.map k v n):=HoldOb.map h
theorem qz8 {k e:ETy} {m n:List (k.T×List e.T)} (h:m=n):HoldOb (.gmap k e m) (.gmap k e n):=HoldOb.gmap h
theorem qz9 {e:ETy} {u:TypeId} {m n:List (List e.T)} (h:m=n):HoldOb (.grow e u m) (.grow e u n):=HoldOb.grow h
theorem qz0 {e:ETy} {u:TypeId} {m n:List e.T} (h:m=n):HoldObs [.row e u m] [.row e u n]:=HoldObs.row h
theorem qi {b:Bool} {p q:Prop} (h1:b=true→p) (h2:b=false→q):BIf b p q:=BIf.intro h1 h2
end Go.Vm
