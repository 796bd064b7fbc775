/- A part of the proofs of the laws. -/
import Derived.Test.YtlhoihabllompaaGreatVmApptoVmFresh
import Derived.TacticsIn
set_option linter.unusedSimpArgs false
set_option linter.unusedVariables false
set_option maxHeartbeats 8000000
set_option maxRecDepth 100000
/- What a function owns becomes known for good. -/
namespace Go.Vm
open Go.RowKit
section
variable {P:Program} {B:Base} {w:World} {σ τ:Sig} {β:yR} {st:St} {tmps:Array Value} {T:Tab} {hp:jJ}
theorem zAk {id:Nat} : ∀ {hp:jJ} {i:Nat},hget (zDU hp id) i=if i=id then none else hget hp i
 | [],i=>by simp [zDU,hget]
 | (k, o)::r,i=>by
   simp only [zDU]
   by_cases e:k=id
   ·subst e;rw [Nat.beq_refl];simp only;rw [zAk,yL]
    by_cases h:i=k
    ·simp [h]
    ·simp [h,Ne.symm h]
   ·have:Nat.beq k id=false:=by
     cases h:Nat.beq k id with
     | false=>rfl
     | true=>exact (e (zH h)).elim
    rw [this];simp only [yL]
    by_cases h:k=i
    ·subst h;simp [e]
    ·simp only [if_neg h];exact zAk
theorem zKa {i id:Nat} (h:i≠id):Nat.beq i id=false:=by
 cases e:Nat.beq i id with
 | false=>rfl
 | true=>exact (h (zH e)).elim
theorem zPx (hag:Ag σ w) {id:Nat} {ob:Ob} (h:zAf σ β w id ob):Mem σ β [(id,ob)] w:=⟨hag,fun i o hi=>by
 simp only [yL] at hi;split at hi
 ·rename_i e;subst e;cases hi;exact h
 ·cases hi⟩
theorem z4q {id:Nat} {ob:Ob} :hget [(id,ob)] id=some ob:=by rw [yL,if_pos rfl]
theorem zKy {id:Nat} {ob:Ob} :hgp [(id,ob)] id=some ob.pln:=by
 unfold hgp;rw [z4q]
theorem zTI (hag:Ag σ w) (hτ:σ.le τ) {id:Nat} {e:ETy} {u:TypeId} {xs:List e.T} (h:zAf σ β w id (.row e u xs)) (hown: ∀ p,β[id]? =some (some p)->τ p.b=w.heap[p.b]?) :
 ∀ a v,y5 σ β a v->y5 τ β (zJz id e xs a) v:=by
 intro a v ha
 have hv:=view_rep_at (hp:=[(id,.row e u xs)]) hτ (fun i ob p hi hp=>by
  simp only [yL] at hi;split at hi
  ·rename_i e';subst e';exact hown p hp
  ·cases hi) (zPx hag h) ha
 cases a with
 | own i s n =>
   simp only [zJz]
   by_cases e':i=id
   ·subst e';rw [Nat.beq_refl];simp only [view,zKy,Ob.pln] at hv;exact hv
   ·rw [zKa e'];exact ha
 | ptr i j k =>
   simp only [zJz]
   by_cases e':i=id
   ·subst e';rw [Nat.beq_refl];cases k with
    | zero=>simp only [view,zKy,Ob.pln] at hv;exact hv
    | succ k=>trivial
   ·rw [zKa e'];exact ha
 | pti i j k =>
   simp only [zJz]
   by_cases e':i=id
   ·subst e';rw [Nat.beq_refl];trivial
   ·rw [zKa e'];exact ha
 | _=>exact y5.mono hτ ha
theorem zSt (hag:Ag σ w) (hτ:σ.le τ) {id:Nat} {k v:ETy} {m:List (k.T×v.T)} (h:zAf σ β w id (.map k v m)) (hown: ∀ p,β[id]? =some (some p)->τ p.b=w.heap[p.b]?) :
 ∀ a x,y5 σ β a x->y5 τ β (zQ7 id k v m a) x:=by
 intro a x ha
 have hv:=view_rep_at (hp:=[(id,.map k v m)]) hτ (fun i ob p hi hp=>by
  simp only [yL] at hi;split at hi
  ·rename_i e';subst e';exact hown p hp
  ·cases hi) (zPx hag h) ha
 cases a with
 | omp i =>
   simp only [zQ7]
   by_cases e':i=id
   ·subst e';rw [Nat.beq_refl];simp only [view,zKy,Ob.pln] at hv;exact hv
   ·rw [zKa e'];exact ha
 | _=>exact y5.mono hτ ha
theorem zAf.mapped {f:AS->AS} (hj:f .junk= .junk) (hs:σ.le τ) (hx: ∀ b o,σ b=some o->τ b=some o) (hf: ∀ a v,y5 σ β a v->y5 τ β (f a) v) {i:Nat} {ob:Ob} (h:zAf σ β w i ob):zAf τ β w i (ob.mapAS f):=by
 cases ob with
 | row e T xs=>exact h.sig hs hx
 | gmap k e m=>exact h.sig hs hx
 | grow e T xss=>exact h.sig hs hx
 | fr X l=>exact ⟨h.1,fun t=>by rw [j7 f hj];exact (h.2 t).mapAS hf⟩
 | flat T cs =>
   obtain ⟨p,h1,h2,h3,h4,h5,c,h6,h7⟩:=h;exact ⟨p,h1,h2,by simpa using h3,h4,by simpa using h5,c,h6,h7.map f hf⟩
 | map k v m=>exact h.sig hs hx
theorem GG.freezeBy (h:GG B σ β st tmps w) {id:Nat} {ob:Ob} (hi:hget st.hp id=some ob) {f:AS->AS} (hj:f .junk= .junk)
 (hf: ∀ τ:Sig,σ.le τ->(∀ p,β[id]? =some (some p)->τ p.b=w.heap[p.b]?)->∀ a v,y5 σ β a v->y5 τ β (f a) v) :
 ∃ σ',GG B σ' β {env:=st.env.mapAS f,hp:=(zDU st.hp id).mapAS f,next:=st.next} tmps w:=by
 have hob:=h.mem.ob _ _ hi;obtain ⟨x,hx⟩:=hob.place
 -- what is known then
 have build: ∀ σ':Sig,σ.le σ'->Ag σ' w->(∀ p,β[id]? =some (some p)->σ' p.b=w.heap[p.b]?)->(∀ b,(∀ p,β[id]? =some (some p)->b≠p.b)->σ' b=σ b)->
  GG B σ' β {env:=st.env.mapAS f,hp:=(zDU st.hp id).mapAS f,next:=st.next} tmps w:=by
  intro σ' hle hag hown hsame;have hfa:=hf σ' hle hown;refine ⟨⟨hag,fun i ob2 hi2=> ?_⟩,fun t=> ?_,h.len,fun i ob2 p hi2 hp2=> ?_,h.bel,h.grew.1.trans hle,fun b hb=> ?_⟩
  ·rw [zA5,zAk] at hi2;split at hi2
   ·cases hi2
   ·cases e:hget st.hp i with
    | none=>rw [e] at hi2;cases hi2
    | some ob1=>rw [e] at hi2;cases hi2;exact (h.mem.ob _ _ e).mapped hj hle (fun b o eb=>(hsame b fun q hq=>by
      have:=(h.sep _ _ _ hi hq).1
      rintro rfl;rw [this] at eb;cases eb).trans eb) hfa
  ·show y6 σ' β (yZ (st.env.mapAS f) t) _;rw [j7 _ hj];exact (h.env t).mapAS hfa
  ·have get: ∀ {j:Nat} {o2:Ob},hget ((zDU st.hp id).mapAS f) j=some o2->j≠id/\∃ o1,hget st.hp j=some o1:=fun {j o2} hj2=>by
    rw [zA5,zAk] at hj2;split at hj2
    ·cases hj2
    ·rename_i hne;cases e:hget st.hp j with
     | none=>rw [e] at hj2;cases hj2
     | some ob1=>exact ⟨hne,_,rfl⟩
   obtain ⟨hne,o1,e1⟩:=get hi2;obtain ⟨s1,s2,s3⟩:=h.sep _ _ _ e1 hp2;refine ⟨?_,s2,fun i' ob' p' hne' hi' hp'=> ?_⟩
   ·rw [hsame _ fun q hq=>Ne.symm (s3 _ _ _ (Ne.symm hne) hi hq)];exact s1
   ·obtain ⟨_,o2,e2⟩:=get hi';exact s3 _ _ _ hne' e2 hp'
  ·rw [hsame b fun q hq e=> ?_]
   ·exact h.grew.2 b hb
   ·have:=(h.sep _ _ _ hi hq).2.1;omega
 cases x with
 | none=>exact ⟨σ,build σ (Sig.le.refl _) h.mem.ag (fun p hp=>by rw [hx] at hp;cases hp) (fun _ _=>rfl)⟩
 | some p =>
   have s1:=(h.sep _ _ _ hi hx).1
   have hle:σ.le (fun b=>if b=p.b then w.heap[p.b]? else σ b):=fun b o e=>by
    show ∃ o',(if b=p.b then _ else _)=some o'/\_;rw [if_neg (by rintro rfl;rw [s1] at e;cases e)];exact ⟨o,e,.refl⟩
   refine ⟨fun b=>if b=p.b then w.heap[p.b]? else σ b,build _ hle (fun b o e=> ?_) (fun q hq=> ?_) (fun b hb=> ?_)⟩
   ·replace e:(if b=p.b then w.heap[p.b]? else σ b)=some o:=e;split at e
    ·rename_i hb;subst hb;exact ⟨o,e,.refl⟩
    ·exact h.mem.ag _ _ e
   ·rw [hx] at hq;cases hq;show (if p.b=p.b then _ else _)=_;rw [if_pos rfl]
   ·show (if b=p.b then _ else _)=_;rw [if_neg (hb p hx)]
theorem GG.freeze (h:GG B σ β st tmps w) (id:Nat): ∃ σ',GG B σ' β (st.freeze id) tmps w:=by
 unfold St.freeze;split
 ·rename_i e u xs hi;obtain ⟨_,h1,_⟩:=zFx hi;exact h.freezeBy h1 rfl fun τ hτ hown=>zTI h.mem.ag hτ (h.mem.obp hi) hown
 ·rename_i k v m hi;obtain ⟨_,h1,_⟩:=zFx hi;exact h.freezeBy h1 rfl fun τ hτ hown=>zSt h.mem.ag hτ (h.mem.obp hi) hown
 ·exact ⟨σ,h⟩
theorem GG.freezeAll: ∀ (ids:List Nat) {σ:Sig} {st:St},GG B σ β st tmps w->∃ σ',GG B σ' β (st.freezeAll ids) tmps w
 | [],σ,_,h=>⟨σ,h⟩
 | i::r,_,_,h=>by
   obtain ⟨σ',h'⟩:=h.freeze i;exact GG.freezeAll r h'
theorem zQP (hag:Ag σ w) (hτ:σ.le τ) {id:Nat} {ob:Ob} (h:zAf σ β w id ob) (hown: ∀ p,β[id]? =some (some p)->τ p.b=w.heap[p.b]?) :
 ∀ a v,y5 σ β a v->y5 τ β (zIi T id ob a) v:=by
 intro a v ha
 have hv:=viewT_rep_at (T:=T) (hp:=[(id,ob)]) hτ (fun i ob' p hi hp=>by
  simp only [yL] at hi;split at hi
  ·rename_i e';subst e';exact hown p hp
  ·cases hi) (zPx hag h) ha
 cases a with
 | ptr i j k =>
   simp only [zIi]
   by_cases e':i=id
   ·subst e';rw [Nat.beq_refl];simp only;split
    ·rename_i e o heq;rw [heq] at hv;exact hv
    ·trivial
   ·rw [zKa e'];exact ha
 | pti i j k =>
   simp only [zIi]
   by_cases e':i=id
   ·subst e';rw [Nat.beq_refl];trivial
   ·rw [zKa e'];exact ha
 | _=>exact y5.mono hτ ha
theorem GG.freezeF (h:GG B σ β st tmps w) (id:Nat): ∃ σ',GG B σ' β (st.freezeF T id) tmps w:=by
 unfold St.freezeF;split
 ·rename_i t cs hi;exact h.freezeBy hi rfl fun τ hτ hown=>zQP h.mem.ag hτ (h.mem.ob _ _ hi) hown
 ·exact ⟨σ,h⟩
theorem GG.freezeFs: ∀ (ids:List Nat) {σ:Sig} {st:St},GG B σ β st tmps w->∃ σ',GG B σ' β (st.freezeFs T ids) tmps w
 | [],σ,_,h=>⟨σ,h⟩
 | i::r,_,_,h=>by
   obtain ⟨σ',h'⟩:=h.freezeF (T:=T) i;exact GG.freezeFs r h'
theorem GG.capture (h:GG B σ β st tmps w) (caps:List Operand): ∃ σ',GG B σ' β (st.capture T caps) tmps w:=by
 obtain ⟨σ1,h1⟩:=GG.freezeAll (zLE st.hp (zNd st.env caps)) h;exact GG.freezeFs _ h1
theorem zQv {env:Env} {ρ:Operand->Value} : ∀ {caps:List Operand} {ps:List PtV},z8U env caps=some ps->(∀ c∈caps,y6 σ β (y7 env c) (ρ c))->jQ (fun (q:PtV) u=>jG σ (.pt q.e) (some q.x) [u]) ps (caps.map ρ)
 | [],ps,h,_=>by cases h;trivial
 | c ::r,ps,h,hr=>by
   simp only [z8U] at h;split at h
   ·rename_i e x ps' h1 h2;cases h;have:=hr c (by simp);rw [h1] at this;exact ⟨this,zQv h2 fun c hc=>hr c (by simp [hc])⟩
   ·cases h
end
end Go.Vm
/- Go's clear, at a part of an owned row of numbers. -/
namespace Go.Vm
open Go.RowKit
section
variable {P:Program} {B:Base} {w w':World} {σ:Sig} {β:yR} {st:St} {tmps:Array Value} {T:Tab} {o:Oper} {ρ:Operand->Value}
theorem GG.hset_same (h:GG B σ β st tmps w) {id:Nat} {ob:Ob} (hi:hget st.hp id=some ob):GG B σ β {st with hp:=zA6 st.hp id ob} tmps w:=by
 have e: ∀ i,hget (zA6 st.hp id ob) i=hget st.hp i:=fun i=>by
  rw [zAR ⟨_,hi⟩];split
  ·rename_i e;subst e;exact hi.symm
  ·rfl
 exact ⟨⟨h.mem.ag,fun i o ho=>h.mem.ob i o (by rw [<- e];exact ho)⟩,h.env,h.len,fun i o p ho hp=>by
  obtain ⟨s1,s2,s3⟩:=h.sep i o p (by rw [<- e];exact ho) hp
  exact ⟨s1,s2,fun i' o' p' hne ho' hp'=>s3 i' o' p' hne (by rw [<- e];exact ho') hp'⟩,h.bel,h.grew⟩
theorem zMw (z:Value) (n:Nat):(Builtin.zeroCells #[z] n).toList=List.replicate n z:=by
 simp [Builtin.zeroCells];apply List.ext_getElem
 ·simp
 ·intro i h1 h2;simp [Nat.mod_one]
theorem zQX (hT:zAA P T) (hE:zGz T) (h:GG B σ β st tmps w) (hd:zBE o.dst tmps) {ev:Operand->AV} (hops: ∀ x∈o.op.operands,y6 σ β (ev x) (ρ x)) {st':St} (he:zOO T o ev st=some st'):zLi P B o ρ st' tmps w:=by
 unfold zOO at he;split at he
 case h_2=>cases he
 rename_i c hop;obtain ⟨callee,args,ts⟩:=c;dsimp only at he;split at he
 case h_2=>cases he
 rename_i x t ha hts;obtain ⟨args⟩:=args;obtain ⟨ts⟩:=ts;dsimp only at ha hts;subst ha hts;split at he
 case h_2=>cases he
 rename_i id s n u hx hdc;split at he
 case h_2=>cases he
 rename_i u' xs ti hid hti;split at he
 case h_2=>cases he
 rename_i hety;cases he;have hxr:=hops x (by simp [hop,Op.operands,Call.operands]);rw [hx] at hxr;have hxr:y5 σ β (.own id s n) (ρ x):=hxr;simp only [y5] at hxr;have hu:=hT.und hdc (by simp);have und: ∀ w:World,(underlying t).run P w= .ok (.slice u) w:=fun w=>hT.desc hdc (by simp)
 have same:n=0->xs.take s++(List.replicate n (0:Int)++xs.drop (s+n))=xs:=by
  rintro rfl;simp
 have skip:n=0->(execOp ρ o).run P w= .ok (.value undef) w->zLi P B o ρ (({st with hp:=zA6 st.hp id (.row (.int .i64) u' (xs.take s++(List.replicate n (0:Int)++xs.drop (s+n))))} :St).put o.dst .undef) tmps w:=fun hn hrun=>by
  rw [same hn];exact ⟨_,_,σ,β,.inl hrun,(h.hset_same hid).put hd y6.undef⟩
 cases hβ:β[id]? with
 | none=>simp [hβ] at hxr
 | some q =>
   cases q with
   | none =>
     simp only [hβ] at hxr;obtain ⟨hv,rfl,rfl⟩:=hxr;refine skip rfl ?_;simp [execOp,hop,resolve,invoke,builtin,Builtin.clear_,und,hv,undef]
   | some p =>
     simp only [hβ] at hxr;obtain ⟨a,cap,hv,h1,h2,h3,h4⟩:=hxr
     by_cases hn0:n=0
     ·subst hn0;refine skip rfl ?_;simp [execOp,hop,resolve,invoke,builtin,Builtin.clear_,und,hv,undef]
     obtain rfl:a=_:=h2.resolve_left (by omega);have hob:=h.mem.ob _ _ hid;obtain ⟨hxl,hob⟩:=hob;simp only [hβ] at hob;obtain ⟨q1,q2,q3,c,q4,q5,q6⟩:=hob;have q1:p.sz=1:=q1;have hsn:p.o+s*p.sz+n<=c.size:=by rw [q5,q1];rw [q1] at h3;omega
     obtain ⟨zi,z,hi,hs,hb,hz,hzl⟩:=(hT _ _ hti).get
     have hzc:z.cells= #[Value.int .i64 0]:=by
      have:=(hE _ _ hti _ hety).1;rw [this] at hzl;apply Array.ext';rw [hzl];rfl
     have hst:=run_storeCells_at P p.b (p.o+s*p.sz) u' (List.replicate n (Value.int .i64 0)) 0 c w q4 (by simpa using hsn) (fun v hv=>by rw [List.eq_of_mem_replicate hv];rfl);simp only [Nat.add_zero] at hst
     have hrun:(execOp ρ o).run P w= .ok (.value undef) (w.setRow p.b (c.toList.take (p.o+s*p.sz)++List.replicate n (Value.int .i64 0)++c.toList.drop (p.o+s*p.sz+(List.replicate n (Value.int .i64 0)).length)).toArray):=by
      have hzv:(zeroValue u).run P w= .ok z w:=by simp [zeroValue,typeInfo,hi,hz]
      obtain ⟨m,rfl⟩: ∃ m,n=m+1:=⟨n - 1,by omega⟩;simp [execOp,hop,resolve,invoke,builtin,Builtin.clear_,und,hv,undef,hzv,hzc,zMw,hst]
     have hsep:=h.sep _ _ _ hid hβ;refine ⟨_,_,σ,β,.inl hrun,(h.turn hid hβ (fun k hk=>setRow_other w p.b k _ hk) (Below.setRow w _ _ hsep.2.1) ?_).put hd y6.undef⟩
     have hlen:(xs.take s++(List.replicate n (0:Int)++xs.drop (s+n))).length=xs.length:=by
      simp only [zN,qZ,List.length_drop,List.length_replicate];show min s xs.length+(n+(xs.length - (s+n)))=xs.length;omega
     refine ⟨by rw [hlen];exact hxl,?_⟩;simp only [hβ];refine ⟨q1,by rw [hlen];exact q2,q3,_,zBM _ q4,?_,fun i x hx=> ?_⟩
     ·simp;omega
     ·have hle':p.o+s*p.sz+(List.replicate n (Value.int .i64 0)).length<=c.toList.length:=by simpa using hsn
      simp only [List.getElem?_toArray,zBa hle'];rw [q1] at q6 ⊢;simp only [Nat.mul_one,List.length_replicate]
      have hone: ∀ {y:Int} {d:List Value} {j:Nat} {v:Value},jG σ (.int .i64) y d->d[j]? =some v->j=0:=fun {y d j v} hy hj=>by
       have hl:d.length=1:=hy.length;have:=(zK.1 hj).1;omega
      have hxs:s+n<=xs.length:=by rw [<- q2];exact h4
      have hts:(xs.take s).length=s:=by rw [qZ];exact Nat.min_eq_left (by omega)
      rcases Nat.lt_or_ge i s with hi1|hi1
      ·rw [List.getElem?_append_left (by omega),List.getElem?_take,if_pos hi1] at hx;obtain ⟨d,f1,f2⟩:=q6 i x hx;refine ⟨d,f1,fun j v hj=> ?_⟩;obtain rfl:=hone f1 hj;have:=f2 0 v hj;rw [<- zM,Nat.mul_one] at this;rw [if_pos (by omega)];exact this
      ·rw [List.getElem?_append_right (by omega),hts] at hx;rcases Nat.lt_or_ge (i - s) n with hi2|hi2
       ·rw [List.getElem?_append_left (by simpa using hi2),List.getElem?_replicate,if_pos hi2] at hx;cases hx;refine ⟨[.int .i64 0],⟨rfl,rfl⟩,fun j v hj=> ?_⟩
        obtain rfl:j=0:=by
         have:=(zK.1 hj).1;simpa using this
        rw [if_neg (by omega),if_pos (by omega),List.getElem?_replicate,if_pos (by omega)];exact hj
       ·rw [List.getElem?_append_right (by simpa using hi2),List.getElem?_drop,List.length_replicate] at hx;rw [show s+n+(i - s - n)=i by omega] at hx;obtain ⟨d,f1,f2⟩:=q6 i x hx;refine ⟨d,f1,fun j v hj=> ?_⟩;obtain rfl:=hone f1 hj;have:=f2 0 v hj;rw [<- zM,Nat.mul_one] at this;rw [if_neg (by omega),if_neg (by omega)];exact this
end
end Go.Vm
/- One operation, and a region whose order is the text's. -/
namespace Go.Vm
open Go.RowKit
def z8e:Value->Bool
 | .agg cs=>cs.toList.all zHS
 | v=>zHS v
def zDy:Operand->Bool
 | .const v=>z8e v
 | _=>true
def yT (N:Nat) (o:Oper):Bool :=
 (match o.dst with|some d=>Nat.blt d N|none=>true)&&o.op.operands.toList.all zDy
structure GA (B:Base) (N:Nat) (st:St) (a:Act) (w:World):Prop where
 defers:a.defers=B.dfs
 size:a.tmps.size=N
 gg: ∃ σ β,GG B σ β st a.tmps w
def FR (r:Option Nat):Fence:= {Fence.wide with round:=r}
theorem FR.none:FR none=Fence.wide:=rfl
theorem zCJ {P:Program} {f:FuncId} {args:Array Value} {w:World} {R:Ending->World->Prop} (r:Option Nat) (m:Nat) (h:Calls P f args w R):CallsIn (FR r) m P f args w R :=
 (callsIn_wide (n:=m)).2 h
section
variable {P:Program} {B:Base} {w:World} {σ:Sig} {β:yR} {st:St} {T:Tab} {N:Nat} {a:Act} {r:Option Nat} {n:Nat}
theorem jP (h:GG B σ β st a.tmps w) {x:Operand} (hx:zDy x=true):y6 σ β (y7 st.env x) (a.eval x):=by
 cases x with
 | tmp t=>exact h.env t
 | const v =>
   simp only [zDy] at hx;show y6 σ β (AV.ofVal v) v;cases v with
   | agg cs=>exact ⟨cs.toList,by simp,zEe hx⟩
   | int k m=>exact ⟨rfl,(zIV (v:= .int k m) hx).2 _ _ rfl⟩
   | bool b=>rfl
   | _=>exact ⟨rfl,fun cs e=>by cases e⟩
 | global g=>trivial
 | func f=>exact ⟨rfl,fun cs e=>by cases e⟩
theorem zAb {o:Oper} (hs:a.tmps.size=N) (ho:yT N o=true):zBE o.dst a.tmps:=by
 intro t e;simp only [yT,e,zC] at ho;have:t+1<=N:=by simpa [Nat.blt] using ho.1
 exact Nat.lt_of_lt_of_eq (Nat.lt_of_succ_le this) hs.symm
theorem jU (a:Act) (d:Option Tmp) (v:Value):(a.put d v).tmps=zHa a.tmps d v:=by cases d<;>rfl
theorem put_defers (a:Act) (d:Option Tmp) (v:Value):(a.put d v).defers=a.defers:=by cases d<;>rfl
theorem qU (t:Array Value) (d:Option Tmp) (v:Value):(zHa t d v).size=t.size:=by cases d<;>simp [zHa]
theorem zEU (hd:a.defers=B.dfs) (hs:a.tmps.size=N) {st':St} {w':World} {d:Option Tmp} {v:Value} (h: ∃ σ β,GG B σ β st' (zHa a.tmps d v) w'):GA B N st' (a.put d v) w' :=
 ⟨by rw [put_defers];exact hd,by rw [jU,qU];exact hs,by rw [jU];exact h⟩
structure jM (P:Program) (T:Tab):Prop where
 ty:zAA P T
 one:zHM T
 ety:zGz T
 fn:z4E P T
 fr:z5B P T
 mixed:P.follows .mixedOrders=true
 maps:zSE P T
theorem zFv {o:Oper} {ρ:Operand->Value} {f:FuncId} {x:Operand} {args:Array Operand} {ts:Array TypeId} (ho:o.op= .call ⟨.value x,args,ts⟩) (hf:ρ x= .func (.func f) #[] #[]) {fn:Func} (h1:P.funcs[f]? =some fn)
 (h2 : (fn.name == "runtime.NumGoroutine") = false) (h3 : fn.body.isNone = false) : (execOp ρ o).run P w = .ok (.enter f (args.map ρ)) w := by
 simp only [execOp,ho,resolve,hf,Deferred.ofValue,Sem.run_bind,Sem.run_pure,Result.andThen_ok,invoke,callFunc,run_program,h1,h2,h3];simp
theorem zCV {ev:Operand->AV} {ρ:Operand->Value} : ∀ {l:List Operand},(∀ x∈l,y6 σ β (ev x) (ρ x))->jH σ β (l.map ev) (l.map ρ)
 | [],_=>trivial
 | a::l,h=>⟨h a (by simp),zCV fun x hx=>h x (by simp [hx])⟩
theorem zGV {ev:Operand->AV} {ρ:Operand->Value} : ∀ {l:List (Nat×Operand)},(∀ x∈l,y6 σ β (ev x.2) (ρ x.2))->jQ (fun (p:Nat×AV) (q:Nat×Value)=>p.1=q.1/\y6 σ β p.2 q.2) (l.map fun p=>(p.1,ev p.2)) (l.map fun (i,x)=>(i,ρ x))
 | [],_=>trivial
 | a::l,h=>⟨⟨rfl,h a (by simp)⟩,zGV fun x hx=>h x (by simp [hx])⟩
structure GB (B:Base) (N:Nat) (β:yR) (st:St) (a:Act) (w:World):Prop where
 defers:a.defers=B.dfs
 size:a.tmps.size=N
 gg: ∃ σ,GG B σ β st a.tmps w
theorem GB.ga {β:yR} (h:GB B N β st a w):GA B N st a w:=let ⟨σ,hg⟩:=h.gg;⟨h.defers,h.size,σ,β,hg⟩
theorem zCf {β:yR} (hd:a.defers=B.dfs) (hs:a.tmps.size=N) {st':St} {w':World} {d:Option Tmp} {v:Value} (h: ∃ σ,GG B σ β st' (zHa a.tmps d v) w'):GB B N β st' (a.put d v) w' :=
 ⟨by rw [put_defers];exact hd,by rw [jU,qU];exact hs,by rw [jU];exact h⟩
theorem zEV: ∀ {l m:List AV} {us vs:List Value},jH σ β l us->jH σ β m vs->jH σ β (l++m) (us++vs)
 | [],_,[],_,_,h=>h
 | _::_,_,_::_,_,h,h2=>⟨h.1,zEV h.2 h2⟩
 | [],_,_::_,_,h,_=>h.elim
 | _::_,_,[],_,h,_=>h.elim
theorem zLr: ∀ {ps:List PtV} {vs:List Value},jQ (fun (q:PtV) u=>jG σ (.pt q.e) (some q.x) [u]) ps vs->jH σ β (ps.map fun q=>AV.s (.pt q.e (some q.x))) vs
 | [],[],_=>trivial
 | q::ps,v::vs,h=>⟨h.1,zLr h.2⟩
 | [],_::_,h=>h.elim
 | _::_,[],h=>h.elim
theorem zRQ {o:Oper} {ρ:Operand->Value} {f:FuncId} {x:Operand} {args:Array Operand} {ts:Array TypeId} {cvs:Array Value} (ho:o.op= .call ⟨.value x,args,ts⟩) (hf:ρ x= .func (.func f) #[] cvs) {fn:Func} (h1:P.funcs[f]? =some fn)
 (h2 : (fn.name == "runtime.NumGoroutine") = false) (h3 : fn.body.isNone = false) : (execOp ρ o).run P w = .ok (.enter f (args.map ρ ++ cvs)) w := by
 simp only [execOp,ho,resolve,hf,Deferred.ofValue,Sem.run_bind,Sem.run_pure,Result.andThen_ok,invoke,callFunc,run_program,h1,h2,h3];simp
theorem zLS (R:jM P T) (h:GB B N β st a w) {o:Oper} (ho:yT N o=true) {p q:Option Prop} {v:AV} (hc:jO T o.op (y7 st.env) st.hp=some (p,q,v)) :
 Opt p/\(Opt q->∀ {K:Act->World->Prop} {Q:Exit->Act->World->Prop},(∀ a' w',GB B N β (st.put o.dst v) a' w'->K a' w')->o.wpIn (FR r) n P a w K Q):=by
 obtain ⟨σ,hg⟩:=h.gg;have hd:=zAb h.size ho
 have hops: ∀ x∈o.op.operands,y6 σ β (y7 st.env x) (a.eval x):=fun x hx=>by
  simp only [yT,zC,zJ] at ho;exact jP hg (ho.2 x (by simpa using hx))
 have nodefer: ∀ c,o.op≠.defer c:=by intro c e;rw [e] at hc;cases hc
 have value: ∀ {val:Value} {K:Act->World->Prop} {Q:Exit->Act->World->Prop},(execOp a.eval o).run P w= .ok (.value val) w->y6 σ β v val->(∀ a' w',GB B N β (st.put o.dst v) a' w'->K a' w')->o.wpIn (FR r) n P a w K Q:=by
  intro val K Q hrun hv hK;refine ⟨fun f _=>trivial,?_⟩;rw [Oper.semAt_eq _ _ _ nodefer,hrun];exact hK _ _ (zCf h.defers h.size ⟨σ,hg.put hd hv⟩)
 by_cases hs:Op.simple o.op=true
 ·obtain ⟨h1,h2⟩:=zJU R.ty R.one hg.mem hops hs hc;exact ⟨h1,fun hq {K} {Q} hK=>let ⟨val,e1,e2⟩:=h2 hq;value e1 e2 hK⟩
 ·obtain ⟨dst,op,type,pos,after,guard⟩:=o;cases op
  case lookup t x i commaOk =>
   simp only [jO] at hc;obtain ⟨h1,h2⟩:=zSx R.ty R.one R.ety R.maps hg.mem (hops x (by simp [Op.operands])) (hops i (by simp [Op.operands])) _ _ _ hc;exact ⟨h1,fun hq {K} {Q} hK=>let ⟨val,e1,e2⟩:=h2 hq;value (by simp [execOp,e1]) e2 hK⟩
  case buildSlice t m ps =>
   simp only [jO] at hc;unfold zC3 at hc;split at hc
   ·rename_i u hdc;split at hc
    ·rename_i ui hui;split at hc
     ·rename_i e hety;split at hc
      ·rename_i xs hdec hble hsz;cases hc;refine ⟨trivial,fun _=> ?_⟩;intro K Q hK
       have hv:jQ (fun (p:Nat×AV) (q:Nat×Value)=>p.1=q.1/\y6 σ β p.2 q.2) (ps.toList.map fun p=>(p.1,y7 st.env p.2)) (ps.map fun (i,x)=>(i,a.eval x)).toList:=by
        rw [Array.toList_map];exact zGV fun x hx=>hops x.2 (by simp [Op.operands];exact ⟨x.1,by simpa using hx⟩)
       obtain ⟨c,hrun,h2,h3,h4,hnn⟩:=zCu (w:=w) R.ty R.ety hv hdc hui hety hdec hble hsz;obtain ⟨σ',hg',hr'⟩:=zJt (u:=u) hg (by omega) h2;have hx:(execOp a.eval ⟨dst,.buildSlice t m ps,type,pos,after,guard⟩).run P w= .ok (.value (.slice (some ⟨w.heap.size,0,none⟩) m m)) (w.alloc (.cells c u)):=by simp [execOp,hrun]
       refine ⟨fun f _=>trivial,?_⟩;rw [Oper.semAt_eq _ _ _ nodefer,hx];rw [<- h4];exact hK _ _ (zCf h.defers h.size ⟨σ',hg'.put hd hr'⟩)
      ·cases hc
     ·cases hc
    ·cases hc
   ·cases hc
  case call c =>
   obtain ⟨callee,args,ts⟩:=c;cases callee with
   | builtin b=>exact (hs rfl).elim
   | invoke rc m=>simp only [jO,zT0,zAU] at hc;unfold zE1 at hc;split at hc<;>first|contradiction|(cases hc;done)
   | value x =>
     have go: ∀ {f:FuncId},a.eval x= .func (.func f) #[] #[]->zE1 T st.hp (.value (.func f)) ts.toList (args.toList.map (y7 st.env))=some (p,q,v)->Opt p/\(Opt q->∀ {K:Act->World->Prop} {Q:Exit->Act->World->Prop},(∀ a' w',GB B N β (st.put dst v) a' w'->K a' w')->Oper.wpIn (FR r) n P ⟨dst,.call ⟨.value x,args,ts⟩,type,pos,after,guard⟩ a w K Q):=by
      intro f hfx hc;have hargs:jH σ β (args.toList.map (y7 st.env)) (args.toList.map a.eval):=zCV fun x hx=>hops x (by simp [Op.operands,Call.operands];right;simpa using hx);obtain ⟨h1,h2,fn,h3,h4,h5⟩:=zG4 R.fn hg hargs hc;refine ⟨h1,fun hq=> ?_⟩;intro K Q hK;refine ⟨fun f _=>trivial,?_⟩;rw [Oper.semAt_eq _ _ _ nodefer,zFv (ρ:=a.eval) rfl hfx h3 h4 h5];refine ⟨(fun e=>by cases e),?_⟩;have hcalls:=h2 hq;have e1:(args.toList.map a.eval).toArray=args.map a.eval:=by rw [<- Array.toList_map]
      rw [e1] at hcalls
      exact (zCJ r _ hcalls).mono fun e w' ⟨u,σ',e1,e2,e3⟩=>by
       subst e1;exact hK _ _ (zCf h.defers h.size ⟨σ',e2.put hd e3⟩)
     cases x with
     | func f=>simp only [jO,zT0,zAU] at hc;exact go rfl hc
     | tmp t =>
       simp only [jO,zT0,zAU] at hc;split at hc
       ·rename_i f vs hclo;split at hclo
        case h_2=>cases hclo
        rename_i f' ps hev;cases hclo;have hcv:=hops (.tmp t) (by simp [Op.operands,Call.operands]);rw [hev] at hcv;obtain ⟨cvs,hfx,hcap⟩:=hcv
        have hargs:jH σ β (args.toList.map (y7 st.env)++ps.map fun q=>AV.s (.pt q.e (some q.x))) (args.toList.map a.eval++cvs) :=
         zEV (zCV fun x hx=>hops x (by simp [Op.operands,Call.operands];right;simpa using hx)) (zLr hcap)
        obtain ⟨h1,h2,fn,h3,h4,h5⟩:=zG4 R.fn hg hargs hc;refine ⟨h1,fun hq=> ?_⟩;intro K Q hK;refine ⟨fun f _=>trivial,?_⟩;rw [Oper.semAt_eq _ _ _ nodefer,zRQ (ρ:=a.eval) rfl hfx h3 h4 h5];refine ⟨(fun e=>by cases e),?_⟩;have hcalls:=h2 hq;have e1:(args.toList.map a.eval++cvs).toArray=args.map a.eval++cvs.toArray:=by rw [<- List.append_toArray,<- Array.toList_map]
        rw [e1] at hcalls
        exact (zCJ r _ hcalls).mono fun e w' ⟨u,σ',e1,e2,e3⟩=>by
         subst e1;exact hK _ _ (zCf h.defers h.size ⟨σ',e2.put hd e3⟩)
       split at hc
       ·rename_i f hev;have hv:=hops (.tmp t) (by simp [Op.operands,Call.operands]);rw [hev] at hv;exact go hv.1 hc
       ·unfold zE1 at hc;split at hc<;>first|contradiction|(cases hc;done)|(rename_i hh;cases hh)
     | _=>simp only [jO,zT0,zAU] at hc;unfold zE1 at hc;split at hc<;>first|contradiction|(cases hc;done)|(rename_i hh;cases hh)
  all_goals exact (hs rfl).elim
theorem zBw (R:jM P T) (h:GA B N st a w) {o:Oper} (ho:yT N o=true) {p q:Option Prop} {v:AV} (hc:jO T o.op (y7 st.env) st.hp=some (p,q,v)) :
 Opt p/\(Opt q->∀ {K:Act->World->Prop} {Q:Exit->Act->World->Prop},(∀ a' w',GA B N (st.put o.dst v) a' w'->K a' w')->o.wpIn (FR r) n P a w K Q):=by
 obtain ⟨σ,β,hg⟩:=h.gg;obtain ⟨h1,h2⟩:=zLS (r:=r) (n:=n) R (⟨h.defers,h.size,σ,hg⟩:GB B N β st a w) ho hc;exact ⟨h1,fun hq {_} {_} hK=>h2 hq fun a' w' hb=>hK _ _ hb.ga⟩
theorem zVV (h:GA B N st a w) {o:Oper} (nodefer: ∀ c,o.op≠.defer c) {st':St} (hd:zLi P B o a.eval st' a.tmps w) {K:Act->World->Prop} {Q:Exit->Act->World->Prop}
 (hK: ∀ a' w',GA B N st' a' w'->K a' w'):o.wpIn (FR r) n P a w K Q:=by
 obtain ⟨v,w',σ',β',hrun,hg⟩:=hd;refine ⟨fun f _=>trivial,?_⟩;rw [Oper.semAt_eq _ _ _ nodefer];rcases hrun with hrun|⟨hrun,rfl⟩
 ·rw [hrun];exact hK _ _ (zEU h.defers h.size ⟨σ',β',hg⟩)
 ·rw [hrun];exact hK _ _ (zEU h.defers h.size ⟨σ',β',hg⟩)
theorem zTl (R:jM P T) {β:yR} (h:GB B N β st a w) {o:Oper} (ho:yT N o=true) {t:TypeId} {x y:Operand} (hop:o.op= .store t x y) {st':St} (he:zBz T t (y7 st.env x) (y7 st.env y) st o.dst=some (none,none,st'))
 {K:Act->World->Prop} {Q:Exit->Act->World->Prop} (hK: ∀ a' w',GB B N β st' a' w'->K a' w'):o.wpIn (FR r) n P a w K Q:=by
 obtain ⟨σ,hg⟩:=h.gg
 have hops: ∀ x∈o.op.operands,y6 σ β (y7 st.env x) (a.eval x):=fun x hx=>by
  simp only [yT,zC,zJ] at ho;exact jP hg (ho.2 x (by simpa using hx))
 obtain ⟨_,h2⟩:=zFy R.ty hg (zAb h.size ho) hop (hops x (by simp [hop,Op.operands])) (hops y (by simp [hop,Op.operands])) he;obtain ⟨v,w',σ',hrun,hg'⟩:=h2 trivial;refine ⟨fun f _=>trivial,?_⟩;rw [Oper.semAt_eq _ _ _ (by intro c e;rw [hop] at e;cases e)];rcases hrun with hrun|⟨hrun,rfl⟩
 ·rw [hrun];exact hK _ _ (zCf h.defers h.size ⟨σ',hg'⟩)
 ·rw [hrun];exact hK _ _ (zCf h.defers h.size ⟨σ',hg'⟩)
theorem zHD (R:jM P T) (h:GA B N st a w) {o:Oper} (ho:yT N o=true) {p q:Option Prop} {st':St} (he:zCG T o st=some (p,q,st')) :
 Opt p/\(Opt q->∀ {K:Act->World->Prop} {Q:Exit->Act->World->Prop},(∀ a' w',GA B N st' a' w'->K a' w')->o.wpIn (FR r) n P a w K Q):=by
 obtain ⟨σ,β,hg⟩:=h.gg;have hd:=zAb h.size ho
 have hops: ∀ x∈o.op.operands,y6 σ β (y7 st.env x) (a.eval x):=fun x hx=>by
  simp only [yT,zC,zJ] at ho;exact jP hg (ho.2 x (by simpa using hx))
 have nodefer: ∀ c,o.op≠.defer c:=by intro c e;unfold zCG at he;rw [e] at he;cases he
 have fin:Opt p/\(Opt q->zLi P B o a.eval st' a.tmps w)->Opt p/\(Opt q->∀ {K:Act->World->Prop} {Q:Exit->Act->World->Prop},(∀ a' w',GA B N st' a' w'->K a' w')->o.wpIn (FR r) n P a w K Q) :=
  fun ⟨h1,h2⟩=>⟨h1,fun hq {_} {_} hK=>zVV h nodefer (h2 hq) hK⟩
 unfold zCG at he;split at he
 ·rename_i x hop;exact fin <| zMM hg hd hop (hops x (by simp [hop,Op.operands])) he
 ·rename_i t x hop;dsimp only at he;split at he
  ·rename_i cs hf;cases he;exact fin ⟨trivial,fun _=>zTN hg hd hop (hops x (by simp [hop,Op.operands])) hf⟩
  ·cases he
 ·rename_i t hop;dsimp only at he;split at he
  ·rename_i ti hti;cases he;exact fin ⟨trivial,fun _=>zNh R.ty hg hd hop hti⟩
  ·cases he
 ·rename_i t x y hop;exact fin <| zNA R.ty hg hd hop (hops x (by simp [hop,Op.operands])) (hops y (by simp [hop,Op.operands])) he
 ·rename_i t m ps hop;refine fin <| zGp R.ty R.ety hg hd hop ?_ he;rw [Array.toList_map];exact zGV fun x hx=>hops x.2 (by simp [hop,Op.operands];exact ⟨x.1,by simpa using hx⟩)
 ·rename_i t l c hop;exact fin <| zH0 R.ty R.ety hg hd hop (hops l (by simp [hop,Op.operands])) (hops c (by simp [hop,Op.operands])) he
 ·rename_i t hop;exact fin <| zSe hg hd hop he
 ·rename_i t x y z hop;exact fin <| zOF R.ty R.maps hg hd (.inl hop) (hops x (by simp [hop,Op.operands])) (hops y (by simp [hop,Op.operands])) (hops z (by simp [hop,Op.operands])) he
 ·rename_i t x y z hop;exact fin <| zOF R.ty R.maps hg hd (.inr hop) (hops x (by simp [hop,Op.operands])) (hops y (by simp [hop,Op.operands])) (hops z (by simp [hop,Op.operands])) he
 ·rename_i c hop;obtain ⟨callee,args,ts⟩:=c;dsimp only at he;split at he
  ·rename_i x y hcal hargs
   have hcal:callee= .builtin .append:=by
    unfold zAU at hcal;split at hcal
    ·split at hcal<;>cases hcal
    ·exact hcal
   subst hcal
   have hA:args= #[x,y]:=by
    have:args.toList=[x,y]:=hargs;rw [<- Array.toArray_toList (xs:=args),this]
   subst hA;exact fin <| zKr R.ty hg hd hop (hops x (by simp [hop,Op.operands,Call.operands])) (hops y (by simp [hop,Op.operands,Call.operands])) he
  ·rename_i f hcal
   obtain ⟨x,rfl,hfx⟩: ∃ x,callee= .value x/\a.eval x= .func (.func f) #[] #[]:=by
    unfold zAU at hcal;split at hcal
    ·rename_i t;split at hcal
     ·rename_i f' hev;cases hcal;have hv:=hops (.tmp t) (by simp [hop,Op.operands,Call.operands]);rw [hev] at hv;exact ⟨.tmp t,rfl,hv.1⟩
     ·cases hcal
    ·subst hcal;exact ⟨.func f,rfl,rfl⟩
   have hargs:jH σ β (args.toList.map (y7 st.env)) (args.toList.map a.eval):=zCV fun x hx=>hops x (by simp [hop,Op.operands,Call.operands];right;simpa using hx);obtain ⟨h1,h2,fn,h3,h4,h5⟩:=zPG R.fr hg hargs hd he;refine ⟨h1,fun hq=> ?_⟩;intro K Q hK;refine ⟨fun f _=>trivial,?_⟩;rw [Oper.semAt_eq _ _ _ nodefer,zFv (ρ:=a.eval) hop hfx h3 h4 h5];refine ⟨(fun e=>by cases e),?_⟩;have hcalls:=h2 hq;have e1:(args.toList.map a.eval).toArray=args.map a.eval:=by rw [<- Array.toList_map]
   rw [e1] at hcalls
   exact (zCJ r _ hcalls).mono fun e w' ⟨u,σ',β',e1,e2⟩=>by
    subst e1;exact hK _ _ (zEU h.defers h.size ⟨σ',β',e2⟩)
  ·cases he
 ·cases he
theorem zKT {T:Tab} {o:Oper} {st:St} {r} (h:zJg T o st=some r):zCG T o st=some r:=by
 unfold zJg at h;split at h
 ·cases h
 ·exact h
theorem zCq (R:jM P T) (h:GA B N st a w) {draw:Bool} {o:Oper} (ho:yT N o=true) {p q:Option Prop} {st':St} (he:zBr T draw o st=some (p,q,st')) :
 Opt p/\(Opt q->∀ {K:Act->World->Prop} {Q:Exit->Act->World->Prop},(∀ a' w',GA B N st' a' w'->K a' w')->o.wpIn (FR r) n P a w K Q):=by
 have calm: ∀ {st:St} {res},GA B N st a w->jY T o st=some res->res=(p,q,st')->Opt p/\(Opt q->∀ {K:Act->World->Prop} {Q:Exit->Act->World->Prop},(∀ a' w',GA B N st' a' w'->K a' w')->o.wpIn (FR r) n P a w K Q):=by
  intro st res h hc e;subst e;unfold jY at hc;split at hc
  ·rename_i p' q' v hv;cases hc;exact zBw R h ho hv
  ·cases hc
 unfold zBr at he;cases draw with
 | true =>
   simp only at he;split at he
   ·rename_i res hc;exact calm h hc (Option.some.inj he)
   ·exact zHD R h ho (zKT he)
 | false =>
   simp only at he;split at he
   ·rename_i res hc;cases he;exact zHD R h ho hc
   ·split at he
    ·rename_i res hc;cases he;exact calm h hc rfl
    ·split at he
     ·cases he
     ·rename_i i ids _;obtain ⟨σ,β,hg⟩:=h.gg;obtain ⟨σ',hg'⟩:=GG.freezeAll (i::ids) hg;have h':GA B N (st.freezeAll (i::ids)) a w:=⟨h.defers,h.size,σ',β,hg'⟩;split at he
      ·rename_i res hc;cases he;exact zHD R h' ho hc
      ·exact calm h' he rfl
theorem zXT (R:jM P T) (h:GA B N st a w) {draw:Bool} {o:Oper} (ho:yT N o=true) {K:St->Prop} (hk:zSI T draw o st K) {K':Act->World->Prop} {Q:Exit->Act->World->Prop}
 (hK: ∀ st' a' w',K st'->GA B N st' a' w'->K' a' w'):o.wpIn (FR r) n P a w K' Q:=by
 unfold zSI at hk;simp only [St.force_eq] at hk;split at hk
 ·rename_i st' hs;exact (zCq R h ho hs).2 trivial fun a' w'=>hK _ _ _ hk
 ·rename_i p st' hs;obtain ⟨h1,h2⟩:=zCq (r:=r) (n:=n) R h ho hs;exact h2 trivial fun a' w'=>hK _ _ _ (hk.out h1)
 ·rename_i q st' hs;obtain ⟨k1,k2⟩:=hk.out;exact (zCq R h ho hs).2 k1 fun a' w'=>hK _ _ _ k2
 ·rename_i p q st' hs;obtain ⟨h1,h2⟩:=zCq (r:=r) (n:=n) R h ho hs;obtain ⟨k1,k2⟩:=(hk.out h1).out;exact h2 k1 fun a' w'=>hK _ _ _ k2
 ·exact hk.elim
theorem z1C {r:Option Res} {K:AV->Prop} (h:z92 r K): ∃ p q v,r=some (p,q,v)/\(Opt p->Opt q/\K v):=by
 unfold z92 at h;split at h
 ·rename_i v;exact ⟨none,none,v,rfl,fun _=>⟨trivial,h⟩⟩
 ·rename_i p v;exact ⟨some p,none,v,rfl,fun hp=>⟨trivial,h.out hp⟩⟩
 ·rename_i q v;exact ⟨none,some q,v,rfl,fun _=>h.out⟩
 ·rename_i p q v;exact ⟨some p,some q,v,rfl,fun hp=>(h.out hp).out⟩
 ·exact h.elim
theorem zJi {o:Oper} {ev:Operand->AV} {st st':St} (h:zOO T o ev st=some st'): ∀ c,o.op≠.defer c:=fun c e=>by
 unfold zOO at h;rw [e] at h;cases h
theorem z1z (R:jM P T) (h:GA B N st a w) {draw:Bool} {o:Oper} (ho:yT N o=true) {K:St->Prop} (hk:aop T draw o st K) {K':Act->World->Prop} {Q:Exit->Act->World->Prop}
 (hK: ∀ st' a' w',K st'->GA B N st' a' w'->K' a' w'):o.wpIn (FR r) n P a w K' Q:=by
 unfold aop at hk;split at hk
 ·exact zXT R h ho hk hK
 ·split at hk
  ·rename_i hd vs hrun;simp only [St.force_eq] at hk;obtain ⟨σ,β,hg⟩:=h.gg
   have hops: ∀ x∈o.op.operands,y6 σ β (y7 st.env x) (a.eval x):=fun x hx=>by
    simp only [yT,zC,zJ] at ho;exact jP hg (ho.2 x (by simpa using hx))
   unfold z9g at hrun;split at hrun
   case h_2=>cases hrun
   rename_i c hop;obtain ⟨callee,args,ts⟩:=c;dsimp only at hrun;split at hrun
   case h_2=>cases hrun
   rename_i f hcal;split at hrun
   case h_2=>cases hrun
   rename_i hd' hl;cases hrun
   obtain ⟨x,rfl,hfx⟩: ∃ x,callee= .value x/\a.eval x= .func (.func f) #[] #[]:=by
    unfold zAU at hcal;split at hcal
    ·rename_i t;split at hcal
     ·rename_i f' hev;cases hcal;have hv:=hops (.tmp t) (by simp [hop,Op.operands,Call.operands]);rw [hev] at hv;exact ⟨.tmp t,rfl,hv.1⟩
     ·cases hcal
    ·subst hcal;exact ⟨.func f,rfl,rfl⟩
   have hargs:jH σ β (args.toList.map (y7 st.env)) (args.toList.map a.eval):=zCV fun x hx=>hops x (by simp [hop,Op.operands,Call.operands];right;simpa using hx);obtain ⟨fn,h3,h4,h5⟩:=R.fr.fn _ _ hl;have hcalls:=R.fr.run _ _ hl B σ β st a.tmps w _ _ _ hg hargs hk;refine ⟨fun f _=>trivial,?_⟩;rw [Oper.semAt_eq _ _ _ (by intro c e;rw [hop] at e;cases e),zFv (ρ:=a.eval) hop hfx h3 h4 h5];refine ⟨(fun e=>by cases e),?_⟩
   have e1:(args.toList.map a.eval).toArray=args.map a.eval:=by rw [<- Array.toList_map]
   rw [e1] at hcalls
   exact (zCJ r _ hcalls).mono fun e w' ⟨u,av,st',σ',β',e1,e2,e3,e4⟩=>by
    subst e1;exact hK _ _ _ e2 (zEU h.defers h.size ⟨σ',β',e3.put (zAb h.size ho) e4⟩)
  ·split at hk
   ·rename_i f vs hclo;obtain ⟨σ,β,hg⟩:=h.gg
    have hops: ∀ x∈o.op.operands,y6 σ β (y7 st.env x) (a.eval x):=fun x hx=>by
     simp only [yT,zC,zJ] at ho;exact jP hg (ho.2 x (by simpa using hx))
    unfold z9d at hclo;split at hclo
    case h_2=>cases hclo
    rename_i c hop;obtain ⟨callee,args,ts⟩:=c;dsimp only at hclo;split at hclo
    case h_2=>cases hclo
    rename_i t;split at hclo
    case h_2=>cases hclo
    rename_i f' ps hev;cases hclo;have hcv:=hops (.tmp t) (by simp [hop,Op.operands,Call.operands]);rw [hev] at hcv;obtain ⟨cvs,hfx,hcap⟩:=hcv
    have hargs:jH σ β (args.toList.map (y7 st.env)++ps.map fun q=>AV.s (.pt q.e (some q.x))) (args.toList.map a.eval++cvs) :=
     zEV (zCV fun x hx=>hops x (by simp [hop,Op.operands,Call.operands];right;simpa using hx)) (zLr hcap)
    obtain ⟨p,q,v,hc,hkk⟩:=z1C hk;obtain ⟨h1,h2,fn,h3,h4,h5⟩:=zG4 R.fn hg hargs hc;obtain ⟨k1,k2⟩:=hkk h1;have hcalls:=h2 k1;rw [St.force_eq] at k2;refine ⟨fun f _=>trivial,?_⟩;rw [Oper.semAt_eq _ _ _ (by intro c e;rw [hop] at e;cases e),zRQ (ρ:=a.eval) hop hfx h3 h4 h5];refine ⟨(fun e=>by cases e),?_⟩;have e1:(args.toList.map a.eval++cvs).toArray=args.map a.eval++cvs.toArray:=by rw [<- List.append_toArray,<- Array.toList_map]
    rw [e1] at hcalls
    exact (zCJ r _ hcalls).mono fun e w' ⟨u,σ',e1,e2,e3⟩=>by
     subst e1;exact hK _ _ _ k2 (zEU h.defers h.size ⟨σ',β,e2.put (zAb h.size ho) e3⟩)
   ·split at hk
    ·rename_i st' hcl;rw [St.force_eq] at hk;obtain ⟨σ,β,hg⟩:=h.gg
     have hops: ∀ x∈o.op.operands,y6 σ β (y7 st.env x) (a.eval x):=fun x hx=>by
      simp only [yT,zC,zJ] at ho;exact jP hg (ho.2 x (by simpa using hx))
     exact zVV h (zJi hcl) (zQX R.ty R.ety hg (zAb h.size ho) hops hcl) fun a' w'=>hK _ _ _ hk
    ·split at hk
     ·rename_i f caps hmf;simp only [St.force_eq] at hk;split at hk
      case h_2=>exact hk.elim
      rename_i ps hps
      obtain ⟨first,capA,hop,hf0,rfl⟩: ∃ first capA,o.op= .makeFunc (.func f) first capA/\first.toList=[]/\capA.toList=caps:=by
       unfold z9k at hmf;split at hmf
       ·rename_i f' first capA hop
        split at hmf
        ·rename_i hf;cases hmf;exact ⟨first,capA,hop,hf,rfl⟩
        ·cases hmf
       ·cases hmf
      obtain ⟨σ,β,hg⟩:=h.gg;obtain ⟨σ',hg'⟩:=hg.capture (T:=T) capA.toList
      have hops: ∀ x∈capA.toList,y6 σ' β (y7 (st.capture T capA.toList).env x) (a.eval x):=fun x hx=>by
       simp only [yT,zC,zJ] at ho;exact jP hg' (ho.2 x (by simp [hop,Op.operands];right;simpa using hx))
      have hr:=zQv hps hops;refine ⟨fun f _=>trivial,?_⟩
      have hrun:(execOp a.eval o).run P w= .ok (.value (.func (.func f) #[] (capA.map a.eval))) w:=by
       have hfe:first= #[]:=by rw [<- Array.toArray_toList (xs:=first),hf0]
       subst hfe;simp [execOp,hop,Instr.makeFunc,Sem.run_bind,Sem.run_pure]
      rw [Oper.semAt_eq _ _ _ (by intro c e;rw [hop] at e;cases e),hrun];exact hK _ _ _ hk (zEU h.defers h.size ⟨σ',β,hg'.put (zAb h.size ho) ⟨capA.toList.map a.eval,by rw [<- Array.toList_map],hr⟩⟩)
     ·exact zXT R h ho hk hK
theorem zEu {ops:Array Oper} {t:Array Value} {j:Nat} {d:Tmp} {b:Bool} (hd:qT ops j=some d) (hv:t.getD d undef= .bool b):yielded ops t j=some b:=by
 unfold qT at hd;unfold yielded;split at hd
 ·rename_i o ho;simp only [ho,Option.bind_some,hd];cases e:t[d]? with
  | none=>simp [zL,e,undef] at hv
  | some v =>
    simp only [zL,e,Option.getD_some] at hv;subst hv;rfl
 ·cases hd
theorem j8 {ops:Array Oper} {env:Env} {j:Nat} (h:zFl ops env j≠.junk): ∃ d,qT ops j=some d/\zFl ops env j=yZ env d:=by
 unfold zFl at h ⊢;unfold qT;split
 ·rename_i o ho;simp only [ho] at h;split
  ·rename_i d hd;exact ⟨d,hd,rfl⟩
  ·rename_i hd;simp [hd] at h
 ·rename_i ho;simp [ho] at h
theorem zBv (h:GA B N st a w) {d:Tmp} {b:Bool} (hb:yZ st.env d= .s (.bool b)):GA B N (st.put (some d) (.s (.bool b))) a w:=by
 obtain ⟨σ,β,hg⟩:=h.gg;refine ⟨h.defers,h.size,σ,β,hg.mem,fun t=> ?_,hg.len,hg.sep,hg.bel,hg.grew⟩;show y6 σ β (yZ ((d,_)::st.env) t) _;rw [qR];split
 ·rename_i e;subst e;have:=hg.env d;rw [hb] at this;exact this
 ·exact hg.env t
theorem zBG (h:GA B N st a w) {o:Oper} (ho:yT N o=true):GA B N (st.put o.dst .undef) (a.put o.dst undef) w:=by
 obtain ⟨σ,β,hg⟩:=h.gg;exact zEU h.defers h.size ⟨σ,β,hg.put (zAb h.size ho) y6.undef⟩
theorem zCe (R:jM P T) {draw:Bool} {ops:Array Oper} {Q:Exit->Act->World->Prop} (rest:List Oper): ∀ (l:List Oper) {st:St} {a:Act} {w:World} {K:St->Prop},(∀ o∈l,yT N o=true)->
 GA B N st a w->zAN T draw ops l st K->(∀ st' a' w',K st'->GA B N st' a' w'->wpListIn (FR r) n P ops Q rest a' w')->wpListIn (FR r) n P ops Q (l++rest) a w
 | [],st,a,w,K,_,h,hk,hQ=>hQ _ _ _ hk h
 | o :: l, st,a,w,K,hall,h,hk,hQ=>by
   have ho:=hall o (by simp);have hall': ∀ o∈l,yT N o=true:=fun o' ho'=>hall o' (by simp [ho'])
   have run: ∀ {st:St},GA B N st a w->aop T draw o st (fun st'=>zAN T draw ops l st' K)->o.wpIn (FR r) n P a w (wpListIn (FR r) n P ops Q (l++rest)) Q:=fun h hk =>
    z1z R h ho hk fun st' a' w' hk' h'=>zCe R rest l hall' h' hk' hQ
   have skip: ∀ {st:St},GA B N st a w->zAN T draw ops l (st.put o.dst .undef) K->wpListIn (FR r) n P ops Q (l++rest) (a.put o.dst undef) w:=fun h hk =>
    zCe R rest l hall' (zBG h ho) hk hQ
   simp only [List.cons_append,wpListIn];simp only [zAN,St.force_eq] at hk;cases hg:o.guard with
   | none =>
     simp only [hg] at hk;have:Region.wanted o (yielded ops a.tmps)=true:=by simp [Region.wanted,hg]
     rw [if_pos this];exact run h hk
   | some jw =>
     obtain ⟨j,want⟩:=jw;simp only [hg] at hk;obtain ⟨σ,β,hgg⟩:=h.gg;split at hk
     ·rename_i b hb;obtain ⟨d,hd,hd2⟩:=j8 (ops:=ops) (env:=st.env) (j:=j) (by rw [hb];simp);rw [hd2] at hb;have hv:=hgg.env d;rw [hb] at hv;have hy:=zEu (ops:=ops) hd (show a.tmps.getD d undef= .bool b from hv);rw [hd] at hk;cases b with
      | true =>
        cases want with
        | true =>
          rw [if_pos (by simp [Region.wanted,hg,hy])];exact run (zBv h hb) hk
        | false =>
          rw [if_neg (by simp [Region.wanted,hg,hy])];exact ⟨fun f _=>trivial,skip (zBv h hb) hk⟩
      | false =>
        cases want with
        | true =>
          rw [if_neg (by simp [Region.wanted,hg,hy])];exact ⟨fun f _=>trivial,skip (zBv h hb) hk⟩
        | false =>
          rw [if_pos (by simp [Region.wanted,hg,hy])];exact run (zBv h hb) hk
     ·rename_i vs hb;obtain ⟨d,hd,hd2⟩:=j8 (ops:=ops) (env:=st.env) (j:=j) (by rw [hb];simp);rw [hd2] at hb;have hv:=hgg.env d;rw [hb] at hv
      have hy:yielded ops a.tmps j=none:=by
       have e1:a.tmps.getD d undef= .tuple vs:=hv.1;unfold qT at hd;unfold yielded;split at hd
       ·rename_i o' ho';simp only [ho',Option.bind_some,hd];cases e:a.tmps[d]? with
        | none=>rfl
        | some v =>
          simp only [zL,e,Option.getD_some] at e1;subst e1;rfl
       ·cases hd
      rw [if_neg (by simp [Region.wanted,hg,hy])];exact ⟨fun f _=>trivial,skip h hk⟩
     ·exact hk.elim
end
end Go.Vm
/- A region whose order is drawn: the calm operations in any order, then the others in theirs. -/
namespace Go.Vm
open Go.RowKit
abbrev Fr:=Nat->AV
def upd (e:Fr) (d:Option Tmp) (v:AV):Fr:=match d with
 | some t=>fun x=>if t=x then v else e x
 | none=>e
def jK (e:Fr):Operand->AV
 | .tmp t=>e t
 | .const v=>AV.ofVal v
 | .global _=> .junk
 | .func f=> .s (.val (.func (.func f) #[] #[]))
theorem y4 (env:Env):jK (yZ env)=y7 env:=by funext x;cases x<;>rfl
def qD (ops:Array Oper) (e:Fr) (o:Oper):Option Bool :=
 match o.guard with
 | none=>some true
 | some (j,want)=>match qT ops j with
   | some d=>match e d with
     | .s (.bool b)=>some (b==want)
     | .s (.val (.tuple _))=>some false
     | _=>none
   | none=>none
def jC:Op->Option TypeId
 | .alloc t=>some t
 | _=>none
def zAt:Op->Option (TypeId×Tmp×Operand)
 | .store t (.tmp d) x=>some (t,d,x)
 | _=>none
def zBO:List Oper->Nat->Nat
 | [],_=>0
 | _::_,0=>0
 | o::l,i+1=>(match jC o.op with|some _=>1|none=>0)+zBO l i
def z7j (nx:Nat) (hp hp':jJ):Prop:= ∀ id,id<nx->hget hp' id=hget hp id
def Yields (T:Tab) (ops:Array Oper) (hp:jJ) (nx:Nat) (gf:Nat->List AS) (i:Nat) (o:Oper) (v:AV) (e:Fr):Prop :=
 match jC o.op with
 | none=>match zAt o.op with
   | none=>(qD ops e o=some true/\∃ p q,(∀ hp',z7j nx hp hp'->jO T o.op (jK e) hp'=some (p,q,v))/\Opt q)\/(qD ops e o=some false/\v= .undef)
   | some (t,d,x)=>o.guard=none/\v= .undef/\∃ j oj ti,j<i/\ops[j]? =some oj/\jC oj.op=some t/\oj.dst=some d/\jK e (.tmp d)= .s (.ptr (nx+zBO ops.toList j) 0 0)/\T.info t=some ti/\
      (jK e x).flat=some (gf i)/\(Nat.beq (gf i).length (T.sizeOf t)&& !Nat.beq (T.sizeOf t) 0)=true/\(gf i).all AS.storable=true/\Nat.ble (0+(gf i).length) ti.zero.length=true
 | some t=>o.guard=none/\(T.info t).isSome=true/\v= .s (.ptr (nx+zBO ops.toList i) 0 0)
theorem qF {T:Tab} {op:Op} {ev ev':Operand->AV} {hp:jJ} (h: ∀ x∈op.operands,ev x=ev' x):jO T op ev hp=jO T op ev' hp:=by
 have pairs: ∀ l:List (Nat×Operand),(∀ x∈l.map (·.2),ev x=ev' x)->(l.map fun p=>(p.1,ev p.2))=(l.map fun p=>(p.1,ev' p.2)):=fun l hl =>
  List.map_congr_left fun p hp=>by rw [hl p.2 (yC.2 ⟨p,hp,rfl⟩)]
 cases op<;>simp only [jO]<;>simp only [Op.operands] at h
 case move x=>rw [h x (by simp)]
 case assign x=>rw [h x (by simp)]
 case pick c a b=>rw [h c (by simp),h a (by simp),h b (by simp)]
 case build t ps=>rw [pairs _ fun x hx=>h x (by simpa using hx)]
 case buildSlice t n ps=>rw [pairs _ fun x hx=>h x (by simpa using hx)]
 case load t x=>rw [h x (by simp)]
 case nilCheck x=>rw [h x (by simp)]
 case binOp op t x y u=>rw [h x (by simp),h y (by simp)]
 case unOp op t x=>rw [h x (by simp)]
 case convert s d x=>rw [h x (by simp)]
 case slice t x lo hi mx =>
  cases mx with
  | some _=>rfl
  | none =>
    simp only;rw [h x (by simp)]
    congr 1
    ·cases lo with
     | none=>rfl
     | some y=>simp [h y (by simp)]
    ·cases hi with
     | none=>rfl
     | some y=>simp [h y (by simp)]
 case fieldAddr t x f=>rw [h x (by simp)]
 case field t x f=>rw [h x (by simp)]
 case indexAddr t x i=>rw [h x (by simp),h i (by simp)]
 case index t x i=>rw [h x (by simp),h i (by simp)]
 case lookup t x i c=>rw [h x (by simp),h i (by simp)]
 case extract x i=>rw [h x (by simp)]
 case call c =>
  have:c.args.toList.map ev=c.args.toList.map ev':=List.map_congr_left fun x hx=>h x (by simp [Call.operands];right;simpa using hx)
  have hc:zAU ev c.callee=zAU ev' c.callee:=by
   unfold zAU;split
   ·rename_i t hcal;rw [h (.tmp t) (by simp [Call.operands,hcal])]
   ·rfl
  have hd:zT0 ev c.callee=zT0 ev' c.callee:=by
   unfold zT0;split
   ·rename_i t hcal;rw [h (.tmp t) (by simp [Call.operands,hcal])]
   ·rfl
  rw [this,hc,hd]
section
variable {T:Tab} {ops:Array Oper} {hp:jJ} {nx:Nat} {gf:Nat->List AS}
theorem zJ8 {e:Fr} {d:Option Tmp} {v:AV} {x:Operand} (h: ∀ t,d=some t->x≠.tmp t):jK (upd e d v) x=jK e x:=by
 cases d with
 | none=>rfl
 | some t =>
   cases x with
   | tmp s =>
     have:t≠s:=fun e=>h t rfl (by rw [e]);simp [jK,upd,this]
   | _=>rfl
theorem Yields.of_apart {i:Nat} {o:Oper} {v u:AV} {e:Fr} {d:Option Tmp} (h: ∀ t,d=some t->t∉o.looksAt ops):Yields T ops hp nx gf i o v (upd e d u)↔Yields T ops hp nx gf i o v e:=by
 have h1: ∀ hp,jO T o.op (jK (upd e d u)) hp=jO T o.op (jK e) hp:=fun hp=>qF fun x hx=>zJ8 fun t ht hxt=>h t ht (by
  subst hxt;simp only [Oper.looksAt,yD,List.mem_filterMap]
  exact .inl ⟨.tmp t,by simpa using hx,rfl⟩)
 have h2 : qD ops (upd e d u) o=qD ops e o:=by
  unfold qD;cases hg:o.guard with
  | none=>rfl
  | some jw =>
    obtain ⟨j,want⟩:=jw;simp only;cases hs:qT ops j with
    | none=>rfl
    | some s =>
      simp only
      have:upd e d u s=e s:=by
       cases d with
       | none=>rfl
       | some t =>
         have hne:t≠s:=by
          rintro rfl;refine h t rfl ?_;simp only [Oper.looksAt,hg,yD];right;unfold qT at hs;cases ho:ops[j]? with
          | none=>simp [ho] at hs
          | some o'=>simp only [ho] at hs;simp [hs]
         simp [upd,hne]
      rw [this]
 have h3: ∀ x∈o.op.operands,jK (upd e d u) x=jK e x:=fun x hx=>zJ8 fun t ht hxt=>h t ht (by
  subst hxt;simp only [Oper.looksAt,yD,List.mem_filterMap]
  exact .inl ⟨.tmp t,by simpa using hx,rfl⟩)
 unfold Yields;cases hi:zAt o.op with
 | none=>simp only [h1,h2]
 | some tdx =>
   obtain ⟨t,s,x⟩:=tdx
   have hop:o.op= .store t (.tmp s) x:=by
    revert hi
    cases o.op<;>simp only [zAt]<;>first|(intro h;cases h;done)|skip
    rename_i t' y z;cases y<;>simp only [zAt]<;>intro h<;>cases h;rfl
   simp only [hop,Op.operands] at h3;simp only [h3 (.tmp s) (by simp),h3 x (by simp)]
theorem zGF {e:Fr} {x y:Option Tmp} {u v:AV} (h: ∀ t,x=some t->y≠some t):upd (upd e x u) y v=upd (upd e y v) x u:=by
 cases x with
 | none=>rfl
 | some s =>
   cases y with
   | none=>rfl
   | some t =>
     have hne:s≠t:=fun e=>h s rfl (by rw [e])
     funext z
     simp only [upd]
     by_cases h1:t=z
     ·subst h1;simp [hne]
     ·simp [h1]
def zNW (Y:Nat->Oper->AV->Fr->Prop) (ops:Array Oper) (i:Nat) (K:Fr->Prop) (e:Fr):Prop:= ∃ o v,ops[i]? =some o/\Y i o v e/\K (upd e o.dst v)
def zDa (Y:Nat->Oper->AV->Fr->Prop) (ops:Array Oper) (k:Nat) (ef:Fr):Nat->Array Bool->Fr->Prop
 | 0,listed,e=>(∀ i<k,listed.getD i true=true)/\e=ef
 | m+1,listed,e=>(Region.ready .any ops listed≠[])/\∀ i∈Region.ready .any ops listed,i<k/\zNW Y ops i (zDa Y ops k ef m (listed.setIfInBounds i true)) e
variable {Y:Nat->Oper->AV->Fr->Prop}
def zOy (Y:Nat->Oper->AV->Fr->Prop) (ops:Array Oper):Prop:= ∀ (i:Nat) (o:Oper) (v u:AV) (e:Fr) (d:Option Tmp),(∀ t,d=some t->t∉o.looksAt ops)->(Y i o v (upd e d u)↔Y i o v e)
theorem zP1 {i:Nat} {K K':Fr->Prop} {e:Fr} (h: ∀ e,K e->K' e) (hh:zNW Y ops i K e):zNW Y ops i K' e :=
 let ⟨o,v,h1,h2,h3⟩:=hh;⟨o,v,h1,h2,h _ h3⟩
theorem zSb (hY:zOy Y ops) {j:Nat} {oi oj:Oper} {v:AV} (hj:ops[j]? =some oj) (hap:oi.apart ops oj=true) {K:Fr->Prop} {e:Fr}
 {i:Nat} (hy:Y i oi v e) (h:zNW Y ops j K (upd e oi.dst v)):zNW Y ops j (fun e'=>Y i oi v e'/\K (upd e' oi.dst v)) e:=by
 obtain ⟨h1,h2,h3⟩:=Oper.apart_spec hap;obtain ⟨o,u,ho,hyu,hk⟩:=h;rw [hj] at ho;cases ho;refine ⟨oj,u,hj,(hY _ _ _ _ _ _ h1).1 hyu,(hY _ _ _ _ _ _ h3).2 hy,?_⟩;rw [zGF fun t ht=>fun e=>h2 t e ht];exact hk
def Dn (ops:Array Oper) (listed:Array Bool):Prop:= ∀ j i,listed.getD j false=true->waits ops j i=true->listed.getD i false=true
theorem zGC {l:Array Bool} {i:Nat} (h:l.getD i true=false):l.getD i false=false:=by
 rcases Nat.lt_or_ge i l.size with h'|h'
 ·simpa [zL,h'] using h
 ·simp [zL,Array.getElem?_eq_none h'] at h
theorem Dn.set {listed:Array Bool} (h:Dn ops listed) {i:Nat} (hi:i∈Region.ready .any ops listed):Dn ops (listed.setIfInBounds i true):=by
 intro j k hj hw
 have hres:listed.getD k false=true:=by
  by_cases e:i=j
  ·subst e;obtain ⟨_,o,ho,hall⟩:=mem_ready.1 hi;unfold waits at hw;rw [ho] at hw;obtain ⟨x,hx,hb⟩:=Array.any_eq_true'.1 hw;simp only [zC,beq_iff_eq] at hb;have:=hall x hx hb.1;rw [hb.2] at this;exact this
  ·have hj':listed.getD j false=true:=by
    simp only [zL,Array.getElem?_setIfInBounds,if_neg e] at hj ⊢;exact hj
   exact h j k hj' hw
 simp only [zL,Array.getElem?_setIfInBounds] at hres ⊢;split
 ·rename_i e;subst e;split
  ·rfl
  ·rename_i hlt;rw [Array.getElem?_eq_none (by omega)] at hres;simp at hres
 ·exact hres
theorem zM9 {listed:Array Bool} (h:Dn ops listed) {i:Nat} : ∀ (n:Nat) (acc:List Nat),(∀ a∈acc,∀ m,waits ops a m=true->listed.getD m false=true)->twl ops i n acc=true->listed.getD i false=true
 | 0,_,_,ht=>by cases ht
 | n + 1,acc,ha,ht=>by
   simp only [twl] at ht;split at ht
   ·rename_i hany;obtain ⟨a,haa,hw⟩:=List.any_eq_true.1 hany;have hl:=ha a haa _ hw;rw [Bool.or_eq_true] at ht;rcases ht with e|ht
    ·have:=zH e;subst this;exact hl
    ·exact zM9 h n _ (fun b hb m hm=>by
      rcases zT.1 hb with rfl|hb
      ·exact h _ m hl hm
      ·exact ha b hb m hm) ht
   ·exact zM9 h n acc ha ht
theorem zFf {listed:Array Bool} (h:Dn ops listed) {j i:Nat} (ht:zHT ops j i=true) (hj: ∀ (o:Oper),ops[j]? =some o->∀ e∈o.after,Region.binds .any e=true->listed.getD e.on false=true):listed.getD i false=true :=
 zM9 h _ _ (fun a ha m hm=>by
  obtain rfl:=zF.1 ha;unfold waits at hm;split at hm
  ·rename_i o ho;obtain ⟨x,hx,hb⟩:=Array.any_eq_true'.1 hm;simp only [zC,beq_iff_eq] at hb;have:=hj o ho x hx hb.1;rw [hb.2] at this;exact this
  ·cases hm) ht
theorem zKv (hY:zOy Y ops) {k:Nat} {ef:Fr} {i:Nat} {oi:Oper} {v:AV} (hi:ops[i]? =some oi) (hik:i<k): ∀ (m:Nat) (listed:Array Bool) (e:Fr),
 (∀ (j:Nat) (oj:Oper),ops[j]? =some oj->j≠i->listed.getD j true=false->zHT ops j i=true\/(j<k/\oi.apart ops oj=true))->Dn ops listed->
 i∈Region.ready .any ops listed->Y i oi v e->zDa Y ops k ef m (listed.setIfInBounds i true) (upd e oi.dst v)->zDa Y ops k ef (m+1) listed e:=by
 intro m
 induction m with
 | zero =>
   intro listed e hfree hdn hr hy H;refine ⟨(fun h=>by rw [h] at hr;cases hr),fun j hj=> ?_⟩
   by_cases hji:j=i
   ·subst hji;exact ⟨hik,oi,v,hi,hy,H⟩
   ·obtain ⟨hjun,oj,hoj,hall⟩:=mem_ready.1 hj
    have hnot:j<k/\oi.apart ops oj=true:=by
     rcases hfree j oj hoj hji hjun with ht|h
     ·have h1:=zFf hdn ht fun o ho=>by rw [hoj] at ho;cases ho;exact hall
      rw [zGC (mem_ready.1 hr).1] at h1;cases h1
     ·exact h
    have hjk:=hnot.1;have:=H.1 j hjk;rw [getD_set_ne true (Ne.symm hji)] at this;rw [this] at hjun;cases hjun
 | succ m ih =>
   intro listed e hfree hdn hr hy H;refine ⟨(fun h=>by rw [h] at hr;cases hr),fun j hj=> ?_⟩
   by_cases hji:j=i
   ·subst hji;exact ⟨hik,oi,v,hi,hy,H⟩
   ·obtain ⟨hjk',h1⟩:=H.2 j (ready_mono hj hji);obtain ⟨hjun,oj,hoj,hall⟩:=mem_ready.1 hj
    have hnot:j<k/\oi.apart ops oj=true:=by
     rcases hfree j oj hoj hji hjun with ht|h
     ·have h1:=zFf hdn ht fun o ho=>by rw [hoj] at ho;cases ho;exact hall
      rw [zGC (mem_ready.1 hr).1] at h1;cases h1
     ·exact h
    obtain ⟨hjk,hap⟩:=hnot;have h2:=zSb hY hoj hap hy h1
    have hfree': ∀ (l:Nat) (ol:Oper),ops[l]? =some ol->l≠i->(listed.setIfInBounds j true).getD l true=false->
     zHT ops l i=true\/(l<k/\oi.apart ops ol=true):=fun l ol hl hli hun=>by
     refine hfree l ol hl hli ?_
     by_cases hjl:j=l
     ·subst hjl;exact hjun
     ·rw [getD_set_ne true hjl] at hun;exact hun
    refine ⟨hjk,zP1 (fun e' h3=>ih (listed.setIfInBounds j true) e' hfree' (hdn.set hj) (ready_mono hr (Ne.symm hji)) h3.1 ?_) h2⟩;rw [Array.setIfInBounds_comm _ _ hji];exact h3.2
def zAl (Y:Nat->Oper->AV->Fr->Prop) (ef:Fr):Nat->List Oper->Fr->Prop
 | _,[],e=>e=ef
 | i,o::l,e=> ∃ v,Y i o v e/\zAl Y ef (i+1) l (upd e o.dst v)
def zMU (ops:Array Oper) (k:Nat) (listed:Array Bool) (i:Nat):Bool :=
 match ops[i]? with
 | none=>false
 | some oi=>(List.range ops.size).all fun j=>j==i|| listed.getD j true|| match ops[j]? with
    | some oj=>zHT ops j i|| (Nat.blt j k&&oi.apart ops oj)
    | none=>true
def zDr (ops:Array Oper) (k:Nat):Nat->Nat->Array Bool->Bool
 | 0,_,_=>true
 | m+1,i,listed=>(Region.ready .any ops listed).contains i&&zMU ops k listed i&&zDr ops k m (i+1) (listed.setIfInBounds i true)
theorem zMY {k i:Nat} {oi:Oper} {listed:Array Bool} (hi:ops[i]? =some oi) (h:zMU ops k listed i=true) (j:Nat) (oj:Oper)
 (hj:ops[j]? =some oj) (hne:j≠i) (hun:listed.getD j true=false):zHT ops j i=true\/(j<k/\oi.apart ops oj=true):=by
 simp only [zMU,hi,zJ,zV] at h;have h1:=h j (zW.1 hj).1;simp only [hj,Bool.or_eq_true,beq_iff_eq,hne,false_or,hun,Bool.false_eq_true] at h1;rcases h1 with h1|h1
 ·exact .inl h1
 ·rw [zC] at h1;exact .inr ⟨Nat.lt_of_succ_le (by simpa [Nat.blt] using h1.1),h1.2⟩
theorem zB7 (hY:zOy Y ops) {k:Nat} {ef:Fr} : ∀ (l:List Oper) (i:Nat) (listed:Array Bool) (e:Fr),i+l.length=k->(∀ j:Nat,j<l.length->l[j]? =ops[i+j]?)->(∀ j,j<i->listed.getD j true=true)->
 zDr ops k l.length i listed=true->Dn ops listed->zAl Y ef i l e->zDa Y ops k ef l.length listed e
 | [],i,listed,e,hk,_,hlis,_,_,h=>⟨fun j hj=>hlis j (by simp at hk;omega),h⟩
 | o ::l,i,listed,e,hk,hl,hlis,hB,hdn,h=>by
   have h0:ops[i]? =some o:=by simpa using (hl 0 (by simp)).symm
   simp only [yA,zDr,zC] at hB;obtain ⟨⟨hr,hf⟩,hB'⟩:=hB;obtain ⟨v,hy,hK⟩:=h;simp only [yA] at hk
   refine zKv hY h0 (by omega) l.length listed e (zMY h0 hf) hdn (by simpa using hr) hy (zB7 hY l (i+1) _ _ (by omega) (fun j hj=>by
    have:=hl (j+1) (by simp;omega);simpa [Nat.add_assoc,Nat.add_comm 1 j] using this) (fun j hj=> ?_) hB' (hdn.set (by simpa using hr)) hK)
   by_cases hji:i=j
   ·subst hji;rcases Nat.lt_or_ge i listed.size with h'|h'
    ·simp [h']
    ·simp [Array.getElem?_eq_none (show (listed.setIfInBounds i true).size<=i by simpa using h')]
   ·rw [getD_set_ne true hji];exact hlis j (by omega)
end
end Go.Vm
/- Calm operations in a heap that has more in it; places that are kept free for what comes. -/
namespace Go.Vm
open Go.RowKit
def AV.low (n:Nat):AV->Prop
 | .s a=>a.idsBelow n=true
 | .agg l=>l.all (AS.idsBelow n)=true
 | .tup _=>True
section
variable {P:Program} {T:Tab} {B:Base} {w:World} {σ:Sig} {β:yR} {st:St} {tmps:Array Value} {hp hp':jJ} {nx:Nat}
theorem zCj {i m:Nat} (h:Nat.blt i m=true):i<m:=zU h
theorem z6H {i m:Nat} (h:i<m):Nat.blt i m=true:=Nat.ble_eq_true_of_le h
theorem y5.low {a:AS} {v:Value} (h:y5 σ β a v):a.idsBelow β.length=true:=by
 have key: ∀ {id:Nat} {q:Option Bk},β[id]? =some q->Nat.blt id β.length=true:=fun {id q} e=>z6H (zK.1 e).1;cases a with
 | own id s n =>
   simp only [y5] at h;cases e:β[id]? with
   | none=>simp [e] at h
   | some q=>exact key e
 | ptr=>obtain ⟨q,e,_⟩:=h;exact key e
 | pti=>obtain ⟨q,e,_⟩:=h;exact key e
 | omp=>obtain ⟨q,e,_⟩:=h;exact key e
 | arr=>obtain ⟨q,e,_⟩:=h;exact key e
 | _=>rfl
theorem zHz: ∀ {l:List AS} {ds:List Value},jQ (y5 σ β) l ds->l.all (AS.idsBelow β.length)=true
 | [],[],_=>rfl
 | _::_,_::_,h=>by simp only [List.all_cons,zC];exact ⟨h.1.low,zHz h.2⟩
 | [],_::_,h=>h.elim
 | _::_,[],h=>h.elim
theorem y6.low {a:AV} {v:Value} (h:y6 σ β a v):a.low β.length:=by
 cases a with
 | s a=>exact y5.low h
 | agg l=>obtain ⟨ds,_,r⟩:=h;exact zHz r
 | tup l=>trivial
def AS.okP (Pr:Nat->Bool):AS->Bool
 | .own i _ _=>Pr i
 | .ptr i _ _=>Pr i
 | .pti i _ _=>Pr i
 | .omp i=>Pr i
 | .arr i _=>Pr i
 | _=>true
def AV.okP (Pr:Nat->Bool):AV->Prop
 | .s a=>a.okP Pr=true
 | .agg l=>l.all (AS.okP Pr)=true
 | .tup _=>True
def zGB (Pr:Nat->Bool) (hp hp':jJ):Prop:= ∀ id,Pr id=true->hget hp' id=hget hp id
section
variable {Pr:Nat->Bool}
theorem zGB.p (h:zGB Pr hp hp') {id:Nat} (hx:Pr id=true):hgp hp' id=hgp hp id:=by unfold hgp;rw [h id hx]
theorem z0d {id:Nat} {t:TypeId} {cs:List AS} (h:hgp hp id=some (.flat t cs)):hget hp id=some (.flat t cs):=by
 obtain ⟨o,h1,h2⟩:=zFx h;cases o<;>simp only [Ob.pln] at h2
 ·cases h2
 ·cases h2;exact h1
 ·cases h2
 ·cases h2
 ·cases h2
 ·cases h2
theorem zQQ {t:TypeId} {x:AV} (hx:x.okP Pr) (h:zGB Pr hp hp'):zL3 T t hp' x=zL3 T t hp x:=by
 cases x with
 | s a=>cases a<;>simp only [zL3]<;>cases T.info t<;>first|rfl|(have e:=h.p hx;simp only [e])|(rename_i o _;cases o<;>rfl)
 | _=>rfl
theorem zH8 {t:TypeId} {x i:AV} {lit:Bool} (hx:x.okP Pr) (h:zGB Pr hp hp'):zA3 T t hp' x i lit=zA3 T t hp x i lit:=by
 cases x with
 | s a =>
   cases i with
   | s i =>
     cases i with
     | int k i =>
       simp only [zA3];cases T.desc t with
       | array n u =>
         simp only;cases lit with
         | true=>rfl
         | false =>
           simp only;generalize T.sizeOf u=m
           match m with
           | 0=>rfl
           | m+2=>rfl
           | 1 =>
             cases a with
             | ip e x k=>cases k<;>rfl
             | ptr id j k =>
               cases k with
               | zero=>have e:=h.p hx;simp only [e]
               | succ k=>rfl
             | _=>rfl
       | slice u =>
         simp only;cases a with
         | own id s n=>have e:=h.p hx;simp only [e]
         | _=>rfl
       | _=>rfl
     | _=>rfl
   | _=>rfl
 | _=>rfl
theorem zNl {t:TypeId} {x:AV} {lo hi:Option AV} (hx:x.okP Pr) (h:zGB Pr hp hp'):zKe T t hp' x lo hi=zKe T t hp x lo hi:=by
 unfold zKe;split
 ·rfl
 ·have e:=h.p hx;simp only [e]
 ·have e:=h.p hx;simp only [e]
 ·rfl
theorem zP5 {a:AS} (hx:a.okP Pr=true) (h:zGB Pr hp hp'):zS9 hp' a=zS9 hp a:=by
 cases a<;>simp only [zS9]<;>(have e:=h.p hx;simp only [e])
theorem zLQ {t:TypeId} {x key:AV} {c:Bool} (hx:x.okP Pr) (h:zGB Pr hp hp'):zGl T t hp' x key c=zGl T t hp x key c:=by
 cases x with
 | s a=>simp only [zGl];cases key.flat<;>cases T.desc t<;>simp only [zP5 hx h]
 | _=>rfl
theorem zGr {a:AS} (hx:a.okP Pr=true) (h:zGB Pr hp hp'):view hp' a=view hp a:=by
 cases a with
 | ptr id i k=>cases k with
   | zero=>simp only [view];rw [h.p hx]
   | succ k=>rfl
 | own=>simp only [view];rw [h.p hx]
 | omp=>simp only [view];rw [h.p hx]
 | _=>rfl
def zGW (Pr:Nat->Bool) (hp:jJ):Prop:= ∀ id t cs,Pr id=true->hget hp id=some (.flat t cs)->cs.all (AS.okP Pr)=true
theorem zIp {a:AS} (hx:a.okP Pr=true) (h:zGB Pr hp hp') (hf:zGW Pr hp):viewT T hp' a=viewT T hp a:=by
 unfold viewT;split
 ·rename_i id;have e:=h.p (show Pr id=true from hx);rw [e];split
  ·rename_i t cs hid;have hm:cs.map (view hp')=cs.map (view hp):=List.map_congr_left fun a ha=>zGr (zJ.1 (hf _ _ _ hx (z0d hid)) a ha) h;rw [hm]
  ·exact zGr hx h
 ·have e:=h.p (show Pr _=true from hx);rw [e]
 ·exact zGr hx h
theorem zLl {a:AV} (hx:a.okP Pr) (h:zGB Pr hp hp') (hf:zGW Pr hp):a.viewT T hp'=a.viewT T hp:=by
 cases a with
 | s a=>simp only [AV.viewT];rw [zIp hx h hf]
 | agg l =>
   simp only [AV.viewT,AV.agg.injEq];exact List.map_congr_left fun a ha=>zIp (zJ.1 hx a ha) h hf
 | tup l=>rfl
theorem zPA {d:TypeDesc} {a:AV} (hx:a.okP Pr) (h:zGB Pr hp hp'):lenOf hp' d a=lenOf hp d a:=by
 unfold lenOf;split<;>first|rfl|(have e:=h.p hx;simp only [e])
theorem zI3 {c:Callee} {ts:List TypeId} {vs:List AV} (hx: ∀ v∈vs,v.okP Pr) (h:zGB Pr hp hp') (hf:zGW Pr hp):zE1 T hp' c ts vs=zE1 T hp c ts vs:=by
 have hv:vs.map (AV.viewT T hp')=vs.map (AV.viewT T hp):=List.map_congr_left fun a ha=>zLl (hx a ha) h hf;unfold zE1;split
 ·split
  ·rw [zPA (hx _ (by simp)) h]
  ·rfl
 ·rfl
 ·rfl
 ·simp only [hv]
 ·rfl
theorem zDR {op:Op} {ev:Operand->AV} (hx: ∀ x∈op.operands,(ev x).okP Pr) (h:zGB Pr hp hp') (hf:zGW Pr hp):jO T op ev hp'=jO T op ev hp:=by
 cases op<;>simp only [jO]<;>simp only [Op.operands] at hx
 case load t x=>exact zQQ (hx x (by simp)) h
 case slice t x lo hi mx =>
  cases mx with
  | some _=>rfl
  | none=>exact zNl (hx x (by simp)) h
 case indexAddr t x i=>exact zH8 (hx x (by simp)) h
 case lookup t x i c=>exact zLQ (hx x (by simp)) h
 case call c =>
  have hargs: ∀ v∈c.args.toList.map ev,v.okP Pr:=fun v hv=>by
   obtain ⟨x,hx',rfl⟩:=yC.1 hv;exact hx x (by simp [Call.operands];right;simpa using hx')
  split
  ·rename_i f ps hclo;refine zI3 (fun v hv=> ?_) h hf;rcases yD.1 hv with hv|hv
   ·exact hargs v hv
   ·unfold zT0 at hclo;split at hclo
    ·split at hclo
     ·cases hclo;obtain ⟨q,_,rfl⟩:=yC.1 hv;rfl
     ·cases hclo
    ·cases hclo
  ·exact zI3 hargs h hf
end
theorem AS.okP_low {a:AS} (h:a.idsBelow nx=true):a.okP (fun i=>Nat.blt i nx)=true:=by cases a<;>exact h
theorem AV.okP_low {a:AV} (h:a.low nx):a.okP (fun i=>Nat.blt i nx):=by
 cases a with
 | s a=>exact AS.okP_low h
 | agg l=>exact zJ.2 fun a ha=>AS.okP_low (zJ.1 h a ha)
 | tup l=>trivial
theorem zTX {op:Op} {ev:Operand->AV} (hx: ∀ x∈op.operands,(ev x).low nx) (h:z7j nx hp hp') (hf:zGW (fun i=>Nat.blt i nx) hp):jO T op ev hp'=jO T op ev hp :=
 zDR (Pr:=fun i=>Nat.blt i nx) (fun x hx'=>AV.okP_low (hx x hx')) (fun id hid=>h id (zCj hid)) hf
theorem GG.flatOk {hp:jJ} {env:Env} {nx:Nat} (h:GG B σ β ⟨env,hp,nx⟩ tmps w):zGW (fun i=>Nat.blt i nx) hp:=fun id t cs _ hid=>by
 obtain ⟨p,_,_,_,_,_,c,_,q6⟩:=h.mem.ob _ _ hid;have:=zHz q6;rw [h.len] at this;exact zJ.2 fun a ha=>AS.okP_low (zJ.1 this a ha)
def dead:Option Bk:=some ⟨0,1,0,0,0⟩
theorem y5.revive {id:Nat} (hd:β[id]? =some dead) (q:Option Bk) {a:AS} {v:Value} (h:y5 σ β a v):y5 σ (β.set id q) a v:=by
 have key: ∀ {i:Nat},i≠id->(β.set id q)[i]? =β[i]? :=fun hi=>List.getElem?_set_ne (Ne.symm hi);cases a with
 | own i s n =>
   simp only [y5] at h ⊢
   by_cases e:i=id
   ·subst e;rw [hd] at h;simp only [dead] at h;obtain ⟨a,cap,_,_,_,h1,_⟩:=h;omega
   ·rw [key e];exact h
 | ptr i j k =>
   obtain ⟨p,e,r,hl⟩:=h
   by_cases e':i=id
   ·subst e';rw [hd] at e;cases e;exact absurd hl (by simp)
   ·exact ⟨p,by rw [key e'];exact e,r,hl⟩
 | pti i j k =>
   obtain ⟨p,e,r,hl,hs⟩:=h
   by_cases e':i=id
   ·subst e';rw [hd] at e;cases e;exact absurd hl (by simp)
   ·exact ⟨p,by rw [key e'];exact e,r,hl,hs⟩
 | omp i =>
   obtain ⟨p,e,r,hl⟩:=h
   by_cases e':i=id
   ·subst e';rw [hd] at e;cases e;exact absurd hl (by simp)
   ·exact ⟨p,by rw [key e'];exact e,r,hl⟩
 | arr i n =>
   obtain ⟨p,e,r,hl,hs⟩:=h
   by_cases e':i=id
   ·subst e';rw [hd] at e;cases e;exact absurd hs (by simp)
   ·exact ⟨p,by rw [key e'];exact e,r,hl,hs⟩
 | _=>exact h
theorem zAf.revive {w':World} {id id':Nat} {ob:Ob} (hd:β[id]? =some dead) (hne:id'≠id) (q:Option Bk) (h:zAf σ β w id' ob) (hk: ∀ p,β[id']? =some (some p)->w'.heap[p.b]? =w.heap[p.b]?) (hkn: ∀ b o,σ b=some o->w'.heap[b]? =w.heap[b]?):zAf σ (β.set id q) w' id' ob:=by
 have key:(β.set id q)[id']? =β[id']? :=List.getElem?_set_ne (Ne.symm hne);cases ob with
 | row e T xs =>
   obtain ⟨h0,h⟩:=h;refine ⟨h0,?_⟩;rw [key];cases hβ:β[id']? with
   | none=>simp [hβ] at h
   | some x =>
     cases x with
     | none=>simpa [hβ] using h
     | some p =>
       simp only [hβ] at h ⊢;obtain ⟨h1,h2,h3,c,h4,h5⟩:=h;exact ⟨h1,h2,h3,c,by rw [hk p hβ];exact h4,h5⟩
 | flat T cs =>
   obtain ⟨p,h1,h2,h3,h4,h5,c,h6,h7⟩:=h;exact ⟨p,by rw [key];exact h1,h2,h3,h4,h5,c,by rw [hk p h1];exact h6,h7.mono fun _ _=>y5.revive hd q⟩
 | map k v m =>
   obtain ⟨h0,p,es,clock,h1,h2,h3⟩:=h;exact ⟨h0,p,es,clock,by rw [key];exact h1,by rw [hk p h1];exact h2,h3⟩
 | gmap k e m =>
   obtain ⟨h0,p,es,clock,h1,h2,h3,h4,h5,h6⟩:=h;exact ⟨h0,p,es,clock,by rw [key];exact h1,by rw [hk p h1];exact h2,h3,h4,h5.keep (fun _ _ e=>e) hkn,h6⟩
 | grow e T xss =>
   obtain ⟨h0,p,h1,h2,h3,h4,c,h5,h6,h7,h8⟩:=h;exact ⟨h0,p,by rw [key];exact h1,h2,h3,h4,c,by rw [hk p h1];exact h5,h6,h7,h8.keep (fun _ _ e=>e) hkn⟩
 | fr X l=>exact ⟨by rw [key];exact h.1,fun t=>(h.2 t).map fun _ _=>y5.revive hd q⟩
theorem GG.free (h:GG B σ β st tmps w):GG B σ (β++[dead]) {st with next:=st.next+1} tmps w:=by
 have hold: ∀ {id:Nat},id<st.next->(β++[dead])[id]? =β[id]? :=fun hi=>by rw [List.getElem?_append_left];rw [h.len];exact hi
 refine ⟨⟨h.mem.ag,fun id ob hi=>(h.mem.ob _ _ hi).keep dead (fun _ _=>rfl) fun _ _ _=>rfl⟩,fun t=>(h.env t).more dead,by simp [h.len],fun id ob p hi hp=> ?_,h.bel,h.grew⟩;rw [hold (h.id_lt hi)] at hp;obtain ⟨s1,s2,s3⟩:=h.sep _ _ _ hi hp;refine ⟨s1,s2,fun id' ob' p' hne hi' hp'=> ?_⟩;rw [hold (h.id_lt hi')] at hp';exact s3 _ _ _ hne hi' hp'
theorem GG.frees (h:GG B σ β st tmps w): ∀ m:Nat,∃ β',GG B σ β' {st with next:=st.next+m} tmps w/\∀ j,j<m->β'[st.next+j]? =some dead
 | 0=>⟨β,h,fun j hj=>by omega⟩
 | m+1=>by
   obtain ⟨β',h1,h2⟩:=GG.frees h m;refine ⟨_,h1.free,fun j hj=> ?_⟩;have hl:β'.length=st.next+m:=h1.len
   by_cases e:j=m
   ·subst e;rw [<- hl];simp
   ·rw [List.getElem?_append_left (by omega)];exact h2 j (by omega)
theorem GG.revive (h:GG B σ β st tmps w) {id:Nat} (hdd:β[id]? =some dead) {d:Option Tmp} (hd:zBE d tmps) {t:TypeId} {cs:List AS} {c:Array Value} (hc:jQ (y5 σ β) cs c.toList) :
 GG B σ (β.set id (some ⟨w.heap.size,0,cs.length,cs.length,1⟩)) (({st with hp:=(id,.flat t cs)::st.hp} :St).put d (.s (.ptr id 0 0))) (zHa tmps d (.pointer (some ⟨w.heap.size,0,none⟩))) (w.alloc (.cells c t)):=by
 have hid:id<β.length:=(zK.1 hdd).1;have hlast:(β.set id (some ⟨w.heap.size,0,cs.length,cs.length,1⟩))[id]? =some (some (⟨w.heap.size,0,cs.length,cs.length,1⟩:Bk)):=by simp [hid]
 have hold: ∀ {i:Nat},i≠id->(β.set id (some ⟨w.heap.size,0,cs.length,cs.length,1⟩))[i]? =β[i]? :=fun hi=>List.getElem?_set_ne (Ne.symm hi);have hsig: ∀ b o,σ b=some o->b<w.heap.size:=fun b o e=>h.mem.ag.lt e;have hw: ∀ k,k<w.heap.size->(w.alloc (.cells c t)).heap[k]? =w.heap[k]? :=fun k hk=>Go.heap_alloc_old w _ hk;refine GG.put (st:= {st with hp:=(id,.flat t cs)::st.hp}) ⟨⟨fun b o e=> ?_,fun id' ob' hi=> ?_⟩,fun t=>(h.env t).map fun _ _=>y5.revive hdd _,by simp [h.len],fun id' ob' p hi hp=> ?_,h.bel.trans ((Below.refl _ w).alloc h.bel.size _),h.grew⟩ hd ⟨_,hlast,by simp,by simp⟩
 ·rw [hw b (hsig b o e)];exact h.mem.ag _ _ e
 ·simp only [yL] at hi;split at hi
  ·rename_i e;subst e;cases hi;exact ⟨_,hlast,rfl,rfl,rfl,rfl,c,Go.heap_alloc_new w _,hc.mono fun _ _=>y5.revive hdd _⟩
  ·rename_i hne;exact (h.mem.ob _ _ hi).revive hdd (Ne.symm hne) _ (fun p hp=>hw _ ((h.mem.ob _ _ hi).lt hp)) fun b o e=>hw b (hsig b o e)
 ·simp only [yL] at hi;split at hi
  ·rename_i e;subst e;rw [hlast] at hp;cases hp;refine ⟨?_,h.bel.size,fun id2 ob2 p2 hne hi2 hp2=> ?_⟩
   ·cases e:σ w.heap.size with
    | none=>rfl
    | some o=>have:=hsig _ _ e;omega
   ·simp only [yL] at hi2;rw [if_neg (Ne.symm hne)] at hi2;rw [hold hne] at hp2;have:=(h.mem.ob _ _ hi2).lt hp2;simp only;omega
  ·rename_i hne;rw [hold (Ne.symm hne)] at hp;obtain ⟨s1,s2,s3⟩:=h.sep _ _ _ hi hp;refine ⟨s1,s2,fun id2 ob2 p2 hne2 hi2 hp2=> ?_⟩;simp only [yL] at hi2;split at hi2
   ·rename_i e;subst e;rw [hlast] at hp2;cases hp2;have:=(h.mem.ob _ _ hi).lt hp;simp only;omega
   ·rename_i hne';rw [hold (Ne.symm hne')] at hp2;exact s3 _ _ _ hne2 hi2 hp2
theorem GG.congr {env env':Env} (h:GG B σ β ⟨env,hp,nx⟩ tmps w) (he:yZ env=yZ env') (hh: ∀ id,hget hp id=hget hp' id):GG B σ β ⟨env',hp',nx⟩ tmps w:=by
 refine ⟨⟨h.mem.ag,fun id ob hi=>h.mem.ob id ob (by rw [hh];exact hi)⟩,fun t=> ?_,h.len,fun id ob p hi hp=> ?_,h.bel,h.grew⟩
 ·show y6 σ β (yZ env' t) _;rw [<- he];exact h.env t
 ·obtain ⟨s1,s2,s3⟩:=h.sep id ob p (by rw [hh];exact hi) hp;exact ⟨s1,s2,fun id' ob' p' hne hi' hp'=>s3 id' ob' p' hne (by rw [hh];exact hi') hp'⟩
end
end Go.Vm
