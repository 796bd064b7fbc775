/- A part of the proofs of the laws. -/
import Derived.Test.YtlhoihabllompaaGreatVmDefs
import Derived.WalkKit
import Derived.Below
import Derived.MapKept
import Derived.Laws.StructEq
import Derived.IntWalk
set_option linter.unusedSimpArgs false
set_option linter.unusedVariables false
set_option maxHeartbeats 8000000
set_option maxRecDepth 100000
/- What the abstract values stand for, and the first lemmas on it. -/
namespace Go.Vm
structure Below (n:Nat) (w w':World):Prop extends Go.RowKit.Below n w w' where
 drawn:w.drawn<=w'.drawn
theorem Below.refl (n:Nat) (w:World):Below n w w:=⟨Go.RowKit.Below.refl n w,zI _⟩
theorem Below.trans {n:Nat} {a b c:World} (h:Below n a b) (k:Below n b c):Below n a c:=⟨h.toBelow.trans k.toBelow,Nat.le_trans h.drawn k.drawn⟩
theorem Below.mono {n n':Nat} {w w':World} (h:Below n w w') (hn:n'<=n):Below n' w w':=⟨h.toBelow.mono hn,h.drawn⟩
theorem Below.drew {n:Nat} {a w:World} (h:Below n a w):Below n a w.drew:=⟨h.toBelow.drew,Nat.le_trans h.drawn (Nat.le_succ _)⟩
theorem Below.alloc {n:Nat} {a w:World} (h:Below n a w) (hn:n<=w.heap.size) (o:Obj):Below n a (w.alloc o):=⟨h.toBelow.alloc hn o,h.drawn⟩
open Go.RowKit
def jQ {α β:Type} (R:α->β->Prop):List α->List β->Prop
 | [],[]=>True
 | a::l,b::m=>R a b/\jQ R l m
 | _,_=>False
section all2
variable {α β:Type} {R S:α->β->Prop}
theorem jQ.length: ∀ {l:List α} {m:List β},jQ R l m->l.length=m.length
 | [],[],_=>rfl
 | _::_,_::_,h=>by simp [jQ.length h.2]
 | [],_::_,h=>h.elim
 | _::_,[],h=>h.elim
theorem jQ.mono (f: ∀ a b,R a b->S a b): ∀ {l:List α} {m:List β},jQ R l m->jQ S l m
 | [],[],_=>trivial
 | _::_,_::_,h=>⟨f _ _ h.1,jQ.mono f h.2⟩
 | [],_::_,h=>h.elim
 | _::_,[],h=>h.elim
theorem jQ.append: ∀ {l:List α} {m:List β} {l' m'},jQ R l m->jQ R l' m'->jQ R (l++l') (m++m')
 | [],[],_,_,_,h=>h
 | _::_,_::_,_,_,h,h'=>⟨h.1,jQ.append h.2 h'⟩
 | [],_::_,_,_,h,_=>h.elim
 | _::_,[],_,_,h,_=>h.elim
theorem jQ.get: ∀ {l:List α} {m:List β},jQ R l m->∀ {i:Nat} {a:α},l[i]? =some a->∃ b,m[i]? =some b/\R a b
 | [],[],_,_,_,h=>by simp at h
 | _::_,b::_,h,0,a,e=>by simp at e;subst e;exact ⟨b,rfl,h.1⟩
 | _::_,_::_,h,i+1,a,e=>by simpa using jQ.get h.2 (by simpa using e)
 | [],_::_,h,_,_,_=>h.elim
 | _::_,[],h,_,_,_=>h.elim
theorem jQ.take: ∀ {l:List α} {m:List β} (k:Nat),jQ R l m->jQ R (l.take k) (m.take k)
 | [],[],_,h=>by simpa using h
 | _::_,_::_,0,_=>trivial
 | _::_,_::_,k+1,h=>⟨h.1,jQ.take k h.2⟩
 | [],_::_,_,h=>h.elim
 | _::_,[],_,h=>h.elim
theorem jQ.drop: ∀ {l:List α} {m:List β} (k:Nat),jQ R l m->jQ R (l.drop k) (m.drop k)
 | [],[],_,h=>by simpa using h
 | _::_,_::_,0,h=>h
 | _::_,_::_,k+1,h=>jQ.drop k h.2
 | [],_::_,_,h=>h.elim
 | _::_,[],_,h=>h.elim
theorem jQ.map {γ:Type} {T:γ->β->Prop} (f:α->γ) (hf: ∀ a b,R a b->T (f a) b): ∀ {l:List α} {m:List β},jQ R l m->jQ T (l.map f) m
 | [],[],_=>trivial
 | _::_,_::_,h=>⟨hf _ _ h.1,jQ.map f hf h.2⟩
 | [],_::_,h=>h.elim
 | _::_,[],h=>h.elim
theorem jQ.split: ∀ {l l':List α} {m:List β},jQ R (l++l') m->∃ m1 m2,m=m1++m2/\jQ R l m1/\jQ R l' m2
 | [],_,m,h=>⟨[],m,rfl,trivial,h⟩
 | a::l,l',b::m,h=>by
   obtain ⟨m1,m2,e,h1,h2⟩:=jQ.split (l:=l) (l':=l') h.2;exact ⟨b::m1,m2,by simp [e],⟨h.1,h1⟩,h2⟩
 | _::_,_,[],h=>h.elim
end all2
abbrev Sig:=Nat->Option Obj
def zBu (σ:Sig) (b o:Nat) (ds:List Value):Prop :=
 ∃ c T fz,σ b=some (.cells c T fz)/\∀ j d,ds[j]? =some d->c[o+j]? =some d
def Ole (o o':Obj):Prop:=o=o'\/∃ c c' T fz,o= .cells c T fz/\o'= .cells c' T fz/\∀ (j:Nat) (v:Value),c[j]? =some v->c'[j]? =some v
theorem Ole.refl {o:Obj} :Ole o o:= .inl rfl
theorem Ole.trans {o o' o'':Obj} (h:Ole o o') (k:Ole o' o''):Ole o o'':=by
 rcases h with rfl|⟨c,c',T,fz,e1,e2,h⟩
 ·exact k
 ·rcases k with rfl|⟨d,d',T',fz',e3,e4,k⟩
  ·exact .inr ⟨c,c',T,fz,e1,e2,h⟩
  ·rw [e2] at e3;cases e3;exact .inr ⟨c,d',T,fz,e1,e4,fun j v hj=>k j v (h j v hj)⟩
theorem Ole.map {es:Array MapEntry} {clock:Nat} {o:Obj} (h:Ole (.map es clock) o):o= .map es clock:=by
 rcases h with h|⟨_,_,_,_,e,_⟩
 ·exact h.symm
 ·cases e
theorem Ole.cells {c:Array Value} {T:TypeId} {fz:Nat×Nat} {o:Obj} (h:Ole (.cells c T fz) o): ∃ c',o= .cells c' T fz/\∀ (j:Nat) (v:Value),c[j]? =some v->c'[j]? =some v:=by
 rcases h with h|⟨_,c',_,_,e,e2,k⟩
 ·exact ⟨c,h.symm,fun _ _ e=>e⟩
 ·cases e;exact ⟨c',e2,k⟩
def Sig.le (σ τ:Sig):Prop:= ∀ b o,σ b=some o->∃ o',τ b=some o'/\Ole o o'
theorem Sig.le.refl (σ:Sig):σ.le σ:=fun _ o h=>⟨o,h,.refl⟩
theorem Sig.le.trans {σ τ υ:Sig} (h:σ.le τ) (k:τ.le υ):σ.le υ:=fun b o e=>by
 obtain ⟨o',e1,h1⟩:=h b o e;obtain ⟨o'',e2,h2⟩:=k b o' e1;exact ⟨o'',e2,h1.trans h2⟩
def Ag (σ:Sig) (w:World):Prop:= ∀ b o,σ b=some o->∃ o',w.heap[b]? =some o'/\Ole o o'
theorem Ag.lt {σ:Sig} {w:World} (h:Ag σ w) {b:Nat} {o:Obj} (e:σ b=some o):b<w.heap.size:=by
 obtain ⟨_,e1,_⟩:=h b o e;exact (zW.1 e1).1
theorem zBu.mono {σ τ:Sig} (h:σ.le τ) {b o:Nat} {ds:List Value} :zBu σ b o ds->zBu τ b o ds :=
 fun ⟨c,T,fz,e,r⟩=>by
  obtain ⟨o',e1,h1⟩:=h _ _ e;obtain ⟨c',rfl,k⟩:=h1.cells;exact ⟨c',T,fz,e1,fun j d hj=>k _ _ (r j d hj)⟩
def InK (k:IntKind) (n:Int):Prop:=k.wrap n=n
def yX (e:ETy) (d:List Value):Value :=
 match e,d with
 | .arr2,d=> .agg d.toArray
 | .arr3,d=> .agg d.toArray
 | .pair _ _,d=> .agg d.toArray
 | _,[v]=>v
 | _,d=> .agg d.toArray
def jG (σ:Sig):(e:ETy)->e.T->List Value->Prop
 | .int k,n,ds=>ds=[.int k n]/\InK k n
 | .bool,b,ds=>ds=[.bool b]
 | .arr2,x,ds=>ds=[.int .i64 x.1,.int .i64 x.2]/\InK .i64 x.1/\InK .i64 x.2
 | .arr3,x,ds=>ds=[.int .i64 x.1,.int .i64 x.2.1,.int .i64 x.2.2]/\InK .i64 x.1/\InK .i64 x.2.1/\InK .i64 x.2.2
 | .pair a b,x,ds=> ∃ d1 d2,ds=d1++d2/\jG σ a x.1 d1/\jG σ b x.2 d2
 | .sl e,xs,ds=> ∃ a cap,ds=[.slice a xs.length cap]/\xs.length<=140737488355328/\xs.length<=cap/\
    (xs≠[]->∃ b o,a=some ⟨b,o,none⟩/\∀ i x,xs[i]? =some x->∃ d,jG σ e x d/\zBu σ b (o+i*e.size) d)
 | .mp k v,m,ds=> ∃ r,ds=[.map r]/\(m.map (·.1)).Nodup/\(r=none->m=[])/\∀ b,r=some b->∃ es clock,σ b=some (.map es clock)/\(es.size=m.length/\MapKept.Stamped es clock)/\
    ∀ (i:Nat) (x:k.T×v.T),m[i]? =some x->∃ (en:MapEntry) (dk dv:List Value),es[i]? =some en/\jG σ k x.1 dk/\en.key=yX k dk/\jG σ v x.2 dv/\en.val=yX v dv
 | .pt e,o,ds=>match o with
   | none=>ds=[.pointer none]
   | some x=> ∃ b off d,ds=[.pointer (some ⟨b,off,none⟩)]/\jG σ e x d/\zBu σ b off d
 | .unit,_,ds=>ds=[]
 | .fnc,o,ds=>ds=[fnV o]
theorem jG.length {σ:Sig} : ∀ {e:ETy} {x:e.T} {ds:List Value},jG σ e x ds->ds.length=e.size
 | .int _,_,_,h=>by rw [h.1];rfl
 | .bool,_,_,h=>by rw [show _=_ from h];rfl
 | .arr2,_,_,h=>by rw [h.1];rfl
 | .arr3,_,_,h=>by rw [h.1];rfl
 | .pair _ _,_,_,h=>by obtain ⟨d1,d2,rfl,h1,h2⟩:=h;simp [ETy.size,h1.length,h2.length]
 | .sl _,_,_,h=>by obtain ⟨a,cap,rfl,_⟩:=h;rfl
 | .mp _ _,_,_,h=>by obtain ⟨r,rfl,_⟩:=h;rfl
 | .pt _,none,_,h=>by rw [show _=_ from h];rfl
 | .pt _,some _,_,h=>by obtain ⟨b,off,d,rfl,_⟩:=h;rfl
 | .unit,_,_,h=>by rw [show _=_ from h];rfl
 | .fnc,_,_,h=>by rw [show _=_ from h];rfl
theorem jG.mono {σ τ:Sig} (hs:σ.le τ): ∀ {e:ETy} {x:e.T} {ds:List Value},jG σ e x ds->jG τ e x ds
 | .int _,_,_,h=>h
 | .bool,_,_,h=>h
 | .arr2,_,_,h=>h
 | .arr3,_,_,h=>h
 | .pair _ _,_,_,h=>by obtain ⟨d1,d2,rfl,h1,h2⟩:=h;exact ⟨d1,d2,rfl,h1.mono hs,h2.mono hs⟩
 | .sl _,_,_,h=>by
   obtain ⟨a,cap,rfl,hl,hc,h⟩:=h;refine ⟨a,cap,rfl,hl,hc,fun hne=> ?_⟩;obtain ⟨b,o,ha,hr⟩:=h hne;exact ⟨b,o,ha,fun i x hx=>let ⟨d,h1,h2⟩:=hr i x hx;⟨d,h1.mono hs,h2.mono hs⟩⟩
 | .mp _ _,_,_,h=>by
   obtain ⟨r,rfl,hl,hn,h⟩:=h;refine ⟨r,rfl,hl,hn,fun b hb=> ?_⟩;obtain ⟨es,clock,h1,h2,h3⟩:=h b hb;obtain ⟨o',q1,q2⟩:=hs _ _ h1;obtain rfl:=q2.map;exact ⟨es,clock,q1,h2,fun i x hx=>let ⟨en,dk,dv,e1,e2,e3,e4,e5⟩:=h3 i x hx;⟨en,dk,dv,e1,e2.mono hs,e3,e4.mono hs,e5⟩⟩
 | .pt _,none,_,h=>h
 | .pt _,some _,_,h=>by obtain ⟨b,off,d,rfl,h1,h2⟩:=h;exact ⟨b,off,d,rfl,h1.mono hs,h2.mono hs⟩
 | .unit,_,_,h=>h
 | .fnc,_,_,h=>h
structure Bk where
 b:Nat
 o:Nat
 sz:Nat
 N:Nat
 L:Nat
abbrev yR:=List (Option Bk)
def z8L (v:Value):Prop:= ∀ cs,v≠.agg cs
def y5 (σ:Sig) (β:yR):AS->Value->Prop
 | .int k n,v=>v= .int k n/\InK k n
 | .bool b,v=>v= .bool b
 | .val u,v=>v=u/\z8L u
 | .sl e xs,v=>jG σ (.sl e) xs [v]
 | .mp k u m,v=>jG σ (.mp k u) m [v]
 | .pt e o,v=>jG σ (.pt e) o [v]
 | .ip e x k,v=> ∃ b o d,v= .pointer (some ⟨b,o+k,none⟩)/\jG σ e x d/\zBu σ b o d
 | .ipi e x j,v=> ∃ b o d,v= .pointer (some ⟨b,o+j,none⟩)/\jG σ e x d/\zBu σ b o d/\j<e.size
 | .own id s n,v=>match β[id]? with
   | none=>False
   | some none=>v= .slice none 0 0/\s=0/\n=0
   | some (some p)=> ∃ a cap,v= .slice (some a) n cap/\n<=cap/\(cap=0\/a=⟨p.b,p.o+s*p.sz,none⟩)/\p.o+(s+cap)*p.sz<=p.N/\s+n<=p.L
 | .ptr id i k,v=> ∃ p,β[id]? =some (some p)/\v= .pointer (some ⟨p.b,p.o+i*p.sz+k,none⟩)/\i<p.L
 | .pti id i j,v=> ∃ p,β[id]? =some (some p)/\v= .pointer (some ⟨p.b,p.o+i*p.sz+j,none⟩)/\i<p.L/\j<p.sz
 | .omp id,v=> ∃ p,β[id]? =some (some p)/\v= .map (some p.b)/\p.o=0
 | .arr id n,v=> ∃ p,β[id]? =some (some p)/\v= .slice (some ⟨p.b,p.o,none⟩) n n/\n<=p.sz/\0<p.L
 | .clo f ps,v=> ∃ vs:List Value,v= .func (.func f) #[] vs.toArray/\jQ (fun (q:PtV) u=>jG σ (.pt q.e) (some q.x) [u]) ps vs
 | .nq neg e xs,v=> ∃ b:Bool,v= .bool (Bool.xor neg b)/\(b=true->xs=[])
 | .junk,_=>True
theorem y5.mono {σ τ:Sig} (hs:σ.le τ) {β:yR} {a:AS} {v:Value} (h:y5 σ β a v):y5 τ β a v:=by
 cases a with
 | int=>exact h
 | bool=>exact h
 | val=>exact h
 | sl=>exact jG.mono hs h
 | mp=>exact jG.mono hs h
 | pt=>exact jG.mono hs h
 | ip=>obtain ⟨b,o,d,e,h1,h2⟩:=h;exact ⟨b,o,d,e,h1.mono hs,h2.mono hs⟩
 | ipi=>obtain ⟨b,o,d,e,h1,h2,h3⟩:=h;exact ⟨b,o,d,e,h1.mono hs,h2.mono hs,h3⟩
 | own=>exact h
 | ptr=>exact h
 | pti=>exact h
 | omp=>exact h
 | arr=>exact h
 | clo f ps=>obtain ⟨vs,e,r⟩:=h;exact ⟨vs,e,r.mono fun _ _=>jG.mono hs⟩
 | nq=>exact h
 | junk=>exact h
theorem y5.more {σ:Sig} {β:yR} {a:AS} {v:Value} (p:Option Bk) (h:y5 σ β a v):y5 σ (β++[p]) a v:=by
 have key: ∀ {id:Nat} {q:Option Bk},β[id]? =some q->(β++[p])[id]? =some q:=fun {id q} e=>by
  rw [List.getElem?_append_left];exact e;exact (zK.1 e).1
 cases a with
 | own id s n =>
   simp only [y5] at h ⊢;cases e:β[id]? with
   | none=>simp [e] at h
   | some q=>rw [key e];rw [e] at h;exact h
 | ptr=>obtain ⟨q,e,r⟩:=h;exact ⟨q,key e,r⟩
 | pti=>obtain ⟨q,e,r⟩:=h;exact ⟨q,key e,r⟩
 | omp=>obtain ⟨q,e,r⟩:=h;exact ⟨q,key e,r⟩
 | arr=>obtain ⟨q,e,r⟩:=h;exact ⟨q,key e,r⟩
 | _=>exact h
mutual
def y6 (σ:Sig) (β:yR):AV->Value->Prop
 | .s a,v=>y5 σ β a v
 | .agg l,v=> ∃ ds:List Value,v= .agg ds.toArray/\jQ (y5 σ β) l ds
 | .tup l,v=> ∃ vs:List Value,v= .tuple vs.toArray/\jH σ β l vs
def jH (σ:Sig) (β:yR):List AV->List Value->Prop
 | [],[]=>True
 | a::l,v::m=>y6 σ β a v/\jH σ β l m
 | _,_=>False
end
theorem zCL {σ:Sig} {β:yR} : ∀ {l:List AV} {m:List Value},jH σ β l m↔jQ (y6 σ β) l m
 | [],[]=>Iff.rfl
 | _::_,_::_=>by simp only [jH,jQ,zCL]
 | [],_::_=>Iff.rfl
 | _::_,[]=>Iff.rfl
mutual
theorem y6.map {σ τ:Sig} {β γ:yR} (f: ∀ a v,y5 σ β a v->y5 τ γ a v): ∀ {a:AV} {v:Value},y6 σ β a v->y6 τ γ a v
 | .s _,_,h=>f _ _ h
 | .agg _,_,h=>let ⟨ds,e,r⟩:=h;⟨ds,e,r.mono f⟩
 | .tup _,_,h=>let ⟨vs,e,r⟩:=h;⟨vs,e,jH.map f r⟩
theorem jH.map {σ τ:Sig} {β γ:yR} (f: ∀ a v,y5 σ β a v->y5 τ γ a v): ∀ {l:List AV} {m:List Value},jH σ β l m->jH τ γ l m
 | [],[],_=>trivial
 | _::_,_::_,h=>⟨y6.map f h.1,jH.map f h.2⟩
 | [],_::_,h=>h.elim
 | _::_,[],h=>h.elim
end
theorem y6.mono {σ τ:Sig} (hs:σ.le τ) {β:yR} {a:AV} {v:Value} (h:y6 σ β a v):y6 τ β a v:=h.map fun _ _=>y5.mono hs
theorem y6.more {σ:Sig} {β:yR} (p:Option Bk) {a:AV} {v:Value} (h:y6 σ β a v):y6 σ (β++[p]) a v:=h.map fun _ _=>y5.more p
theorem jG.cells {σ:Sig} {β:yR} : ∀ {e:ETy} {x:e.T} {ds:List Value},jG σ e x ds->jQ (y5 σ β) (e.cells x) ds
 | .int _,_,_,h=>by obtain ⟨rfl,h⟩:=h;exact ⟨⟨rfl,h⟩,trivial⟩
 | .bool,_,_,h=>by rw [show _=_ from h];exact ⟨rfl,trivial⟩
 | .arr2,_,_,h=>by obtain ⟨rfl,h1,h2⟩:=h;exact ⟨⟨rfl,h1⟩,⟨rfl,h2⟩,trivial⟩
 | .arr3,_,_,h=>by obtain ⟨rfl,h1,h2,h3⟩:=h;exact ⟨⟨rfl,h1⟩,⟨rfl,h2⟩,⟨rfl,h3⟩,trivial⟩
 | .pair _ _,_,_,h=>by obtain ⟨d1,d2,rfl,h1,h2⟩:=h;exact h1.cells.append h2.cells
 | .sl _,_,_,h=>by obtain ⟨a,cap,rfl,hh⟩:=h;exact ⟨⟨a,cap,rfl,hh⟩,trivial⟩
 | .mp _ _,_,_,h=>by obtain ⟨r,rfl,hh⟩:=h;exact ⟨⟨r,rfl,hh⟩,trivial⟩
 | .pt _,none,_,h=>by rw [show _=_ from h];exact ⟨rfl,trivial⟩
 | .pt _,some _,_,h=>by obtain ⟨b,off,d,rfl,hh⟩:=h;exact ⟨⟨b,off,d,rfl,hh⟩,trivial⟩
 | .unit,_,_,h=>by rw [show _=_ from h];exact trivial
 | .fnc,o,_,h=>by rw [show _=_ from h];exact ⟨⟨rfl,fun cs e=>by cases o<;>cases e⟩,trivial⟩
theorem jQ.len_one {α β:Type} {R:α->β->Prop} {a:α} {m:List β} (h:jQ R [a] m): ∃ b,m=[b]/\R a b:=by
 match m,h with
 | [b],h=>exact ⟨b,rfl,h.1⟩
theorem jQ.len_nil {α β:Type} {R:α->β->Prop} {m:List β} (h:jQ R [] m):m=[]:=by
 match m,h with
 | [],_=>rfl
section
variable {σ:Sig} {β:yR} {ds:List Value}
theorem zNj {k:IntKind} {l:List AS} {x:Int} (h:zXl k l=some x) (hr:jQ (y5 σ β) l ds):jG σ (.int k) x ds:=by
 unfold zXl at h;split at h
 ·split at h
  ·rename_i hk;subst hk;cases h;obtain ⟨b,rfl,hb⟩:=hr.len_one;exact ⟨by rw [hb.1],hb.2⟩
  ·contradiction
 ·contradiction
theorem zMF {l:List AS} {x:Bool} (h:zQJ l=some x) (hr:jQ (y5 σ β) l ds):jG σ .bool x ds:=by
 unfold zQJ at h;split at h
 ·cases h;obtain ⟨b,rfl,hb⟩:=hr.len_one;show _=_;rw [show _=_ from hb]
 ·contradiction
theorem zTM {l:List AS} {x:Int×Int} (h:z80 l=some x) (hr:jQ (y5 σ β) l ds):jG σ .arr2 x ds:=by
 unfold z80 at h;split at h
 ·cases h
  match ds,hr with
  | [a,b],⟨h1,h2,_⟩=>exact ⟨by rw [h1.1,h2.1],h1.2,h2.2⟩
 ·contradiction
theorem zTR {l:List AS} {x:Int×Int×Int} (h:z8f l=some x) (hr:jQ (y5 σ β) l ds):jG σ .arr3 x ds:=by
 unfold z8f at h;split at h
 ·cases h
  match ds,hr with
  | [a,b,c],⟨h1,h2,h3,_⟩=>exact ⟨by rw [h1.1,h2.1,h3.1],h1.2,h2.2,h3.2⟩
 ·contradiction
theorem zPI {e:ETy} {l:List AS} {x:List e.T} (h:z5J e l=some x) (hr:jQ (y5 σ β) l ds):jG σ (.sl e) x ds:=by
 unfold z5J at h;split at h
 ·split at h
  ·rename_i hk;subst hk;cases h;obtain ⟨b,rfl,hb⟩:=hr.len_one;exact hb
  ·contradiction
 ·cases h;obtain ⟨b,rfl,hb⟩:=hr.len_one;obtain ⟨rfl,_⟩:=hb;exact ⟨none,0,rfl,by simp,by simp,fun h=>(h rfl).elim⟩
 ·contradiction
theorem zPm {k v:ETy} {l:List AS} {x:List (k.T×v.T)} (h:z3P k v l=some x) (hr:jQ (y5 σ β) l ds):jG σ (.mp k v) x ds:=by
 unfold z3P at h;split at h
 ·split at h
  ·split at h
   ·rename_i hk hk';subst hk;subst hk';cases h;obtain ⟨b,rfl,hb⟩:=hr.len_one;exact hb
   ·contradiction
  ·contradiction
 ·contradiction
theorem zPd {e:ETy} {l:List AS} {x:Option e.T} (h:z31 e l=some x) (hr:jQ (y5 σ β) l ds):jG σ (.pt e) x ds:=by
 unfold z31 at h;split at h
 ·split at h
  ·rename_i hk;subst hk;cases h;obtain ⟨b,rfl,hb⟩:=hr.len_one;exact hb
  ·contradiction
 ·cases h;obtain ⟨b,rfl,hb⟩:=hr.len_one;obtain ⟨rfl,_⟩:=hb;rfl
 ·contradiction
theorem zL1 {l:List AS} {x:Unit} (h:zPV l=some x) (hr:jQ (y5 σ β) l ds):jG σ .unit x ds:=by
 unfold zPV at h;split at h
 ·exact hr.len_nil
 ·contradiction
end
theorem zOI {σ:Sig} {β:yR} {l:List AS} {x:Option Nat} {ds:List Value} (h:zYs l=some x) (hr:jQ (y5 σ β) l ds):jG σ .fnc x ds:=by
 unfold zYs at h;split at h
 ·cases h
  match ds,hr with
  | [d],⟨⟨e,_⟩,_⟩=>subst e;rfl
 ·cases h
  match ds,hr with
  | [d],⟨⟨e,_⟩,_⟩=>subst e;rfl
 ·cases h
theorem ETy.dec_sound {σ:Sig} {β:yR} : ∀ {e:ETy} {l:List AS} {x:e.T} {ds:List Value},e.dec l=some x->jQ (y5 σ β) l ds->jG σ e x ds
 | .int _,_,_,_,h,hr=>zNj h hr
 | .bool,_,_,_,h,hr=>zMF h hr
 | .arr2,_,_,_,h,hr=>zTM h hr
 | .arr3,_,_,_,h,hr=>zTR h hr
 | .pair a b,l,x,ds,h,hr=>by
   unfold ETy.dec at h;split at h
   ·rename_i x1 x2 h1 h2;cases h;exact ⟨ds.take a.size,ds.drop a.size,by simp,ETy.dec_sound h1 (hr.take _),ETy.dec_sound h2 (hr.drop _)⟩
   ·contradiction
 | .sl _,_,_,_,h,hr=>zPI h hr
 | .mp _ _,_,_,_,h,hr=>zPm h hr
 | .pt _,_,_,_,h,hr=>zPd h hr
 | .unit,_,_,_,h,hr=>zL1 h hr
 | .fnc,_,_,_,h,hr=>zOI h hr
theorem zUq {σ:Sig} {β:yR} {v:Value} (h:z8L v) (hk: ∀ k n,v= .int k n->InK k n):y5 σ β (AS.ofVal v) v:=by
 cases v<;>simp only [AS.ofVal]<;>first|exact ⟨rfl,hk _ _ rfl⟩|exact rfl|exact ⟨rfl,h⟩
end Go.Vm
/- The calm operations do what the evaluator says. -/
namespace Go.Vm
open Go.RowKit
theorem InK.i64 {n:Int} :InK .i64 n↔yP n:=by
 unfold InK yP;rw [IntKind.wrap_i64];omega
theorem InK.u64 {n:Int} (h:InK .u64 n):0<=n/\n<=18446744073709551615:=by
 unfold InK at h;rw [IntKind.wrap_u64] at h;omega
theorem InK.u8 {n:Int} (h:InK .u8 n):0<=n/\n<=255:=by
 unfold InK at h;rw [IntKind.wrap_u8] at h;omega
theorem InK.wrap (k:IntKind) (n:Int):InK k (k.wrap n):=by
 unfold InK IntKind.wrap;cases k<;>simp only [IntKind.bits,IntKind.signed]<;>simp<;>split<;>(try split)<;>omega
def Opt:Option Prop->Prop
 | none=>True
 | some p=>p
def Snd (P:Program) (σ:Sig) (β:yR) (w:World) (r:Option Res) (s:Sem Value):Prop :=
 ∀ p q v,r=some (p,q,v)->Opt p/\(Opt q->∃ val,s.run P w= .ok val w/\y6 σ β v val)
structure zOv (P:Program) (t:TypeId) (ti:TI):Prop where
 und:P.underlying t=some ti.desc
 info:(P.info? t).map (fun i=>(i.size,i.bytes,i.zero.map fun z=>z.cells.toList))=some (ti.size,ti.bytes,some ti.zl)
 zok:ti.zl.all zHS=true
 zlen:ti.zl.length=ti.size
 stood : ∀ fs, ti.desc = .struct fs → P.stoodInHeld t = false ∧ ∀ f ∈ fs.toList, f.name ≠ "_"
section
variable {P:Program} {σ:Sig} {β:yR} {w:World}
theorem Snd.none {s:Sem Value} :Snd P σ β w none s:=fun _ _ _ h=>by cases h
theorem Snd.ok {a:AS} {s:Sem Value} (h: ∃ val,s.run P w= .ok val w/\y5 σ β a val):Snd P σ β w (Vm.ok a) s:=by
 intro p q v e;simp only [Vm.ok,Option.some.injEq,Prod.mk.injEq] at e;obtain ⟨rfl,rfl,rfl⟩:=e;exact ⟨trivial,fun _=>h⟩
theorem Snd.pure {v:AV} {s:Sem Value} (h: ∃ val,s.run P w= .ok val w/\y6 σ β v val):Snd P σ β w (some (Option.none,Option.none,v)) s:=by
 intro p q v' e;simp only [Option.some.injEq,Prod.mk.injEq] at e;obtain ⟨rfl,rfl,rfl⟩:=e;exact ⟨trivial,fun _=>h⟩
theorem Snd.need {q:Prop} {a:AS} {s:Sem Value} (h:q->∃ val,s.run P w= .ok val w/\y5 σ β a val):Snd P σ β w (Vm.need q a) s:=by
 intro p q' v e;simp only [Vm.need,Option.some.injEq,Prod.mk.injEq] at e;obtain ⟨rfl,rfl,rfl⟩:=e;exact ⟨trivial,h⟩
theorem Snd.mk {p q:Option Prop} {v:AV} {s:Sem Value} (hp:Opt p) (h:Opt q->∃ val,s.run P w= .ok val w/\y6 σ β v val):Snd P σ β w (some (p,q,v)) s:=by
 intro p' q' v' e;simp only [Option.some.injEq,Prod.mk.injEq] at e;obtain ⟨rfl,rfl,rfl⟩:=e;exact ⟨hp,h⟩
theorem Snd.fitting {a b:Nat} {v:AV} {s:Sem Value} (h:a<=b->∃ val,s.run P w= .ok val w/\y6 σ β v val):Snd P σ β w (Vm.fitting a b v) s:=by
 unfold Vm.fitting;split
 ·rename_i hb;exact Snd.pure (h (zU hb))
 ·exact Snd.none
theorem zOv.run_underlying {t:TypeId} {ti:TI} (h:zOv P t ti):(underlying t).run P w= .ok ti.desc w:=Go.run_underlying h.und w
theorem zOv.get {t:TypeId} {ti:TI} (h:zOv P t ti): ∃ i z,P.info? t=some i/\i.size=ti.size/\i.bytes=ti.bytes/\i.zero=some z/\z.cells.toList=ti.zl:=by
 have:=h.info;cases hi:P.info? t with
 | none=>simp [hi] at this
 | some i =>
   simp only [hi,Option.map_some,Option.some.injEq,Prod.mk.injEq] at this;obtain ⟨h1,h2,h3⟩:=this;cases hz:i.zero with
   | none=>simp [hz] at h3
   | some z=>exact ⟨i,z,rfl,h1,h2,hz,by simpa [hz] using h3⟩
theorem zIV {v:Value} (h:zHS v=true):z8L v/\∀ k n,v= .int k n->InK k n:=by
 refine ⟨fun cs e=>by subst e;simp [zHS] at h,fun k n e=>by subst e;unfold InK;simpa [zHS] using h⟩
theorem zEe: ∀ {l:List Value},l.all zHS=true->jQ (y5 σ β) (l.map AS.ofVal) l
 | [],_=>trivial
 | v::l,h=>by
   simp only [List.all_cons,zC] at h;obtain ⟨h1,h2⟩:=zIV h.1;exact ⟨zUq h1 h2,zEe h.2⟩
theorem zOv.run_sizeOf {t:TypeId} {ti:TI} (h:zOv P t ti):(sizeOf t).run P w= .ok ti.size w:=by
 obtain ⟨i,z,hi,hs,_⟩:=h.get;simp [sizeOf,typeInfo,hi,hs]
theorem zOv.run_isAgg {t:TypeId} {ti:TI} (h:zOv P t ti):(isAgg t).run P w= .ok (zAE ti.desc) w:=by
 unfold isAgg;rw [Sem.run_bind,h.run_underlying];simp only [Result.andThen_ok];cases ti.desc<;>rfl
theorem zCR {k:IntKind} {n:Int} {s:Sem Value} (h:s.run P w= .ok (.int k (k.wrap n)) w):Snd P σ β w (some (arith k n)) s:=by
 unfold arith;cases k
 case i64=>exact Snd.mk trivial fun q=>⟨_,h,by rw [InK.i64.2 q],InK.i64.2 q⟩
 all_goals exact Snd.pure ⟨_,h,rfl,InK.wrap _ _⟩
theorem z3I {k:IntKind} {a b:Int} (ha:InK k a):InK k (a.tmod b):=by
 have h1:(a.tmod b).natAbs<=a.natAbs:=by
  rw [Int.natAbs_tmod];exact Nat.mod_le _ _
 have h2:0<=a->0<=a.tmod b:=fun h=>Int.tmod_nonneg _ h
 have h3:a<=0->a.tmod b<=0:=fun h=>by
  have:0<=(-a).tmod b:=Int.tmod_nonneg _ (by omega);rw [Int.neg_tmod] at this;omega
 unfold InK IntKind.wrap at *;generalize a.tmod b=m at *;cases k<;>simp only [IntKind.bits,IntKind.signed] at* <;>simp at* <;>(try split at ha)<;>(try split)<;>omega
theorem zNC {t:TypeId} {op:BinOp} {k:IntKind} {a b:Int} (ha:InK k a):Snd P σ β w (zTf op k a b) (binOp op t (.int k a) (.int k b)):=by
 unfold zTf;cases op
 case add=>exact zCR (by simp [binOp,Op.intArith])
 case sub=>exact zCR (by simp [binOp,Op.intArith])
 case mul=>exact zCR (by simp [binOp,Op.intArith])
 case quo =>
  by_cases hb:b=0
  ·intro p q v e;refine ⟨?_,fun hq=> ?_⟩
   all_goals (unfold arith at e;cases k<;>simp at e<;>obtain ⟨rfl,rfl,rfl⟩:=e<;>first|exact trivial|exact (hq.1 hb).elim|exact (hq hb).elim)
  ·have hs:(binOp .quo t (.int k a) (.int k b)).run P w= .ok (.int k (k.wrap (a.tdiv b))) w:=by simp [binOp,Op.intDiv,hb]
   have:=zCR (σ:=σ) (β:=β) hs;intro p q v e;unfold arith at this e;cases k<;>simp at e<;>obtain ⟨rfl,rfl,rfl⟩:=e
   case i64=>exact ⟨trivial,fun hq=>(this _ _ _ rfl).2 hq.2⟩
   all_goals exact ⟨trivial,fun _=>(this _ _ _ rfl).2 trivial⟩
 case rem=>exact Snd.mk trivial fun hb=>⟨_,by simp only [Opt] at hb;simp [binOp,Op.intDiv,hb],rfl,z3I ha⟩
 case eql=>exact Snd.ok ⟨_,by simp [binOp,Op.intCmp],rfl⟩
 case neq=>exact Snd.ok ⟨_,by simp [binOp,Op.intCmp],rfl⟩
 case lss=>exact Snd.ok ⟨_,by simp [binOp,Op.intCmp],rfl⟩
 case leq=>exact Snd.ok ⟨_,by simp [binOp,Op.intCmp],rfl⟩
 case gtr=>exact Snd.ok ⟨_,by simp [binOp,Op.intCmp],rfl⟩
 case geq=>exact Snd.ok ⟨_,by simp [binOp,Op.intCmp],rfl⟩
 all_goals exact Snd.none
def zAA (P:Program) (T:Tab):Prop:= ∀ t ti,zFP T.ty t=some ti->zOv P t ti
theorem zAA.desc {T:Tab} (hT:zAA P T) {t:TypeId} {d:TypeDesc} (h:T.desc t=d) (hd:d≠.invalid):(underlying t).run P w= .ok d w:=by
 unfold Tab.desc at h;cases e:zFP T.ty t with
 | none=>simp [e] at h;exact (hd h.symm).elim
 | some ti=>simp only [e] at h;rw [(hT t ti e).run_underlying,h]
theorem zAA.und {T:Tab} (hT:zAA P T) {t:TypeId} {d:TypeDesc} (h:T.desc t=d) (hd:d≠.invalid):P.underlying t=some d:=by
 unfold Tab.desc at h;cases e:zFP T.ty t with
 | none=>simp [e] at h;exact (hd h.symm).elim
 | some ti=>simp only [e] at h;rw [(hT t ti e).und,h]
theorem zAA.size {T:Tab} (hT:zAA P T) {t:TypeId} {d:TypeDesc} (h:T.desc t=d) (hd:d≠.invalid):(sizeOf t).run P w= .ok (T.sizeOf t) w:=by
 unfold Tab.desc at h;unfold Tab.sizeOf;cases e:zFP T.ty t with
 | none=>simp [e] at h;exact (hd h.symm).elim
 | some ti=>exact (hT t ti e).run_sizeOf
theorem zOv.cells {t:TypeId} {ti:TI} (h:zOv P t ti):P.cellsOf t=ti.size:=by
 obtain ⟨i,_,hi,hs,_⟩:=h.get;simp [Program.cellsOf,hi,hs]
theorem zAA.cells {T:Tab} (hT:zAA P T) {t:TypeId} {d:TypeDesc} (h:T.desc t=d) (hd:d≠.invalid):P.cellsOf t=T.sizeOf t:=by
 unfold Tab.desc at h;unfold Tab.sizeOf;cases e:zFP T.ty t with
 | none=>simp [e] at h;exact (hd h.symm).elim
 | some ti=>exact (hT t ti e).cells
theorem zQB {op:BinOp} {r:Bool} {s:BinOp->Sem Value} (h1:(s .eql).run P w= .ok (.bool r) w) (h2:(s .neq).run P w= .ok (.bool (!r)) w):Snd P σ β w (zGe op r) (s op):=by
 unfold zGe;cases op
 case eql=>exact Snd.ok ⟨_,h1,rfl⟩
 case neq=>exact Snd.ok ⟨_,h2,rfl⟩
 all_goals exact Snd.none
theorem zCK: ∃ d,∀ t x y,Op.equal t x y=Op.equalIn (d+2) t x y:=⟨9998,fun _ _ _=>rfl⟩
theorem zE6 {t u:TypeId} (h:(underlying t).run P w= .ok (.pointer u) w) (a:Option Addr):(Op.equal t (.pointer a) (.pointer none)).run P w= .ok a.isNone w:=by
 obtain ⟨d,hd⟩:=zCK;rw [hd];simp only [Op.equalIn,Sem.run_bind,h,Result.andThen_ok];cases a<;>rfl
theorem zN5 {t k u:TypeId} (h:(underlying t).run P w= .ok (.map k u) w) (a:Option Nat):(Op.equal t (.map a) (.map none)).run P w= .ok a.isNone w:=by
 obtain ⟨d,hd⟩:=zCK;rw [hd];simp only [Op.equalIn,Sem.run_bind,h,Result.andThen_ok];cases a<;>rfl
theorem zTD {t:TypeId} (h:(underlying t).run P w= .ok .bool w) (a b:Bool):(Op.equal t (.bool a) (.bool b)).run P w= .ok (a==b) w:=by
 obtain ⟨d,hd⟩:=zCK;rw [hd];simp only [Op.equalIn,Sem.run_bind,h,Result.andThen_ok];rfl
theorem zBW {op:BinOp} {t:TypeId} {x y:Value} {r:Bool} (h:(Op.equal t x y).run P w= .ok r w)
 (h1:binOp .eql t x y=(do pure (.bool (<- Op.equal t x y)))) (h2:binOp .neq t x y=(do pure (.bool (!(<- Op.equal t x y))))):Snd P σ β w (zGe op r) (binOp op t x y):=by
 refine zQB (s:=fun op=>binOp op t x y) ?_ ?_
 ·show (binOp .eql t x y).run P w=_;rw [h1,Sem.run_bind,h];rfl
 ·show (binOp .neq t x y).run P w=_;rw [h2,Sem.run_bind,h];rfl
theorem jI {op:BinOp} {t:TypeId} {x y:Operand} {a b:Value} (h: ∀ cs,a≠.agg cs) (h':a≠.nilIface):(eqGuard op t x y a b).run P w= .ok () w:=by
 cases op<;>simp only [eqGuard]<;>first|rfl|skip
 all_goals (cases a<;>first|rfl|exact (h _ rfl).elim|exact (h' rfl).elim)
theorem Snd.guarded {r:Option Res} {g:Sem Unit} {s:Sem Value} (hg:g.run P w= .ok () w) (hs:Snd P σ β w r s):Snd P σ β w r (do g;s):=by
 intro p q v e;obtain ⟨h1,h2⟩:=hs p q v e;exact ⟨h1,fun hq=>let ⟨val,e1,e2⟩:=h2 hq;⟨val,by rw [Sem.run_bind,hg];exact e1,e2⟩⟩
theorem zDc {t u:TypeId} (h:(underlying t).run P w= .ok (.slice u) w) (a:Option Addr) (n c:Nat):(Op.equal t (.slice a n c) (.slice none 0 0)).run P w= .ok a.isNone w:=by
 obtain ⟨d,hd⟩:=zCK;rw [hd];simp only [Op.equalIn,Sem.run_bind,h,Result.andThen_ok];cases a<;>rfl
theorem zMC {op:BinOp} {t:TypeId} {x y:Value} {e:ETy} {xs:List e.T} {r:Bool} (h:(Op.equal t x y).run P w= .ok r w) (hr:r=true->xs=[])
 (h1:binOp .eql t x y=(do pure (.bool (<- Op.equal t x y)))) (h2:binOp .neq t x y=(do pure (.bool (!(<- Op.equal t x y))))):Snd P σ β w (z0C op e xs) (binOp op t x y):=by
 unfold z0C;split
 ·refine Snd.ok ⟨.bool r,?_,r,by simp,hr⟩;rw [h1,Sem.run_bind,h];rfl
 ·refine Snd.ok ⟨.bool (!r),?_,r,by simp,hr⟩;rw [h2,Sem.run_bind,h];rfl
 ·exact Snd.none
theorem zN3 {T:Tab} (hT:zAA P T) {t:TypeId} {op:BinOp} {a b:AS} {x y:Value} {ox oy:Operand} (hx:y5 σ β a x) (hy:y5 σ β b y) :
 Snd P σ β w (zY7 op (T.desc t) a b) (do eqGuard op t ox oy x y;binOp op t x y):=by
 unfold zY7;split
 ·rename_i e o hd;obtain ⟨rfl,_⟩:=hy;have hu:=hT.desc (w:=w) hd (by simp);cases o with
  | none=>obtain rfl:=(List.cons.inj (show _=_ from hx)).1;exact Snd.guarded (jI (by simp) (by simp)) (zBW (zE6 hu _) rfl rfl)
  | some z=>obtain ⟨b,off,d,e1,_⟩:=hx;obtain rfl:=(List.cons.inj e1).1;exact Snd.guarded (jI (by simp) (by simp)) (zBW (zE6 hu _) rfl rfl)
 ·rename_i hd;obtain ⟨rfl,_⟩:=hy;obtain ⟨rfl,_⟩:=hx;exact Snd.guarded (jI (by simp) (by simp)) (zBW (zE6 (hT.desc (w:=w) hd (by simp)) _) rfl rfl)
 ·rename_i hd;obtain ⟨rfl,_⟩:=hy;obtain ⟨b,o,d,rfl,_⟩:=hx;exact Snd.guarded (jI (by simp) (by simp)) (zBW (zE6 (hT.desc (w:=w) hd (by simp)) _) rfl rfl)
 ·rename_i hd;obtain ⟨rfl,_⟩:=hy;obtain ⟨p,_,rfl,_⟩:=hx;exact Snd.guarded (jI (by simp) (by simp)) (zBW (zE6 (hT.desc (w:=w) hd (by simp)) _) rfl rfl)
 ·rename_i hd;obtain ⟨rfl,_⟩:=hy;obtain ⟨p,_,rfl,_⟩:=hx;exact Snd.guarded (jI (by simp) (by simp)) (zBW (zN5 (hT.desc (w:=w) hd (by simp)) _) rfl rfl)
 ·rename_i hd;obtain ⟨rfl,_⟩:=hy;obtain ⟨rfl,_⟩:=hx;exact Snd.guarded (jI (by simp) (by simp)) (zBW (zN5 (hT.desc (w:=w) hd (by simp)) _) rfl rfl)
 ·rename_i e xs hd;obtain ⟨rfl,_⟩:=hy;obtain ⟨a,cap,e1,_,_,h3⟩:=hx;obtain rfl:=(List.cons.inj e1).1;refine Snd.guarded (jI (by simp) (by simp)) (zMC (zDc (hT.desc (w:=w) hd (by simp)) _ _ _) (fun hr=> ?_) rfl rfl)
  by_cases hne:xs=[]
  ·exact hne
  ·obtain ⟨b,o,rfl,_⟩:=h3 hne;cases hr
 ·rename_i id s n hd;obtain ⟨rfl,_⟩:=hy;simp only [y5] at hx;split at hx
  ·exact hx.elim
  ·obtain ⟨rfl,_,rfl⟩:=hx;exact Snd.guarded (jI (by simp) (by simp)) (zMC (zDc (hT.desc (w:=w) hd (by simp)) _ _ _) (fun _=>rfl) rfl rfl)
  ·obtain ⟨a,cap,rfl,_⟩:=hx;exact Snd.guarded (jI (by simp) (by simp)) (zMC (zDc (hT.desc (w:=w) hd (by simp)) _ _ _) (fun hr=>by cases hr) rfl rfl)
 ·rename_i hd;obtain ⟨rfl,_⟩:=hy;obtain ⟨rfl,_⟩:=hx;exact Snd.guarded (jI (by simp) (by simp)) (zBW (zDc (hT.desc (w:=w) hd (by simp)) _ _ _) rfl rfl)
 ·exact Snd.none
theorem zEJ: ∀ {l m:List AS} {ds es:List Value} {r:Bool},zIs l m=some r->jQ (y5 σ β) l ds->jQ (y5 σ β) m es->
 ds.length=es.length/\(∀ (i:Nat) (x y:Value),ds[i]? =some x->es[i]? =some y->∃ k a b,x= .int k a/\y= .int k b)/\(r=true↔ds=es)
 | [],[],ds,es,r,h,h1,h2=>by
   cases h;obtain rfl:=h1.len_nil;obtain rfl:=h2.len_nil;simp
 | .int k a::l,.int k' b::m,d::ds,e::es,r,h,h1,h2=>by
   simp only [zIs] at h;split at h
   ·rename_i hk r' hd hr;cases h;subst hk;obtain ⟨i1,i2,i3⟩:=zEJ hr h1.2 h2.2;obtain ⟨⟨rfl,_⟩,⟨rfl,_⟩⟩:=zA h1.1 h2.1;refine ⟨by simp [i1],?_,?_⟩
    ·intro i x y hx hy;cases i with
     | zero=>simp at hx hy;exact ⟨k,a,b,hx.symm,hy.symm⟩
     | succ i=>exact i2 i x y (by simpa using hx) (by simpa using hy)
    ·simp [i3]
   ·contradiction
 | .int _ _::_,.int _ _::_,[],_,_,_,h1,_=>h1.elim
 | .int _ _::_,.int _ _::_,_::_,[],_,_,_,h2=>h2.elim
theorem zCi {T:Tab} (hT:zAA P T) {u:TypeId} {k:IntKind} (hu:T.desc u= .int k) {xs:List Value} {i:Nat} {x:Value} (hx:xs[i]? =some x) :
 (Go.part u xs.toArray i).run P w= .ok x w:=by
 unfold Go.part
 have h1:(isAgg u).run P w= .ok false w:=by
  unfold isAgg;rw [Sem.run_bind,hT.desc hu (by simp)];rfl
 simp [h1,hx]
theorem zHW {T:Tab} (hT:zAA P T) {u:TypeId} {k:IntKind} (hu:T.desc u= .int k) (d:Nat) {ds es:List Value}
 (h: ∀ (i:Nat) (x y:Value),ds[i]? =some x->es[i]? =some y->∃ k a b,x= .int k a/\y= .int k b) :
 ∀ is:List Nat,(∀ i∈is,i<ds.length/\i<es.length)->∃ r,(Op.eqItems (d+1) u 1 ds.toArray es.toArray is).run P w= .ok r w/\(r=true↔∀ i∈is,ds[i]? =es[i]?)
 | [],_=>⟨true,by simp [Op.eqItems],by simp⟩
 | i ::is,hi=>by
   obtain ⟨r,hr,hiff⟩:=zHW hT hu d h is (fun j hj=>hi j (by simp [hj]));obtain ⟨h1,h2⟩:=hi i (by simp);obtain ⟨x,hx⟩: ∃ x,ds[i]? =some x:=⟨_,zG h1⟩;obtain ⟨y,hy⟩: ∃ y,es[i]? =some y:=⟨_,zG h2⟩;obtain ⟨k',a,b,rfl,rfl⟩:=h i x y hx hy;have e1:=zCi (w:=w) hT hu hx;have e2:=zCi (w:=w) hT hu hy
   have e3:(Op.equalIn (d+1) u (.int k' a) (.int k' b)).run P w= .ok (a==b) w:=by
    simp only [Op.equalIn,Sem.run_bind,hT.desc (w:=w) hu (by simp),Result.andThen_ok];simp
   simp only [Op.eqItems,Nat.mul_one,Sem.run_bind,e1,e2,e3,Result.andThen_ok]
   by_cases hab:a=b
   ·subst hab;refine ⟨r,by simpa using hr,?_⟩;simp [hiff,hx,hy]
   ·refine ⟨false,by simp [hab],?_⟩;simp [hx,hy,hab]
theorem zMN {T:Tab} (hT:zAA P T) {t u:TypeId} {n:Nat} {k:IntKind} (ht:T.desc t= .array n u) (hu:T.desc u= .int k) (op:BinOp) (x y:Operand) (xs ys:Array Value) :
 (eqGuard op t x y (.agg xs) (.agg ys)).run P w= .ok () w:=by
 have:P.eqGuardType P.depth t=false:=by
  unfold Program.depth;simp only [Program.eqGuardType,hT.und ht (by simp),hT.und hu (by simp)]
 cases op<;>simp [eqGuard,run_program,this]
theorem zH2 {ds es:List Value} {n:Nat} (h1:ds.length=n) (h2:es.length=n):(∀ i∈List.range n,ds[i]? =es[i]?)↔ds=es:=by
 constructor
 ·intro h;apply List.ext_getElem?;intro i
  by_cases hi:i<n
  ·exact h i (by simpa using hi)
  ·rw [List.getElem?_eq_none (by omega),List.getElem?_eq_none (by omega)]
 ·rintro rfl _ _;rfl
theorem zGI {T:Tab} (hT:zAA P T) (d:Nat) {ds es:List Value} (h: ∀ (i:Nat) (x y:Value),ds[i]? =some x->es[i]? =some y->∃ k a b,x= .int k a/\y= .int k b) (hl:ds.length=es.length) :
 ∀ (fs : List Field) (i : Nat), zCI T i fs = true → (∀ f ∈ fs, f.name ≠ "_") → i + fs.length = ds.length → ∃ r, (Op.eqFields (d + 1) ds.toArray es.toArray fs).run P w = .ok r w ∧ (r = true ↔ ds.drop i = es.drop i)
 | [],i,_,_,hi=>⟨true,by simp [Op.eqFields],by
     simp only [List.length_nil,Nat.add_zero] at hi
     rw [List.drop_eq_nil_of_le (by omega),List.drop_eq_nil_of_le (by omega)];simp⟩
 | f ::fs,i,hc,hn,hi=>by
   simp only [yA] at hi;simp only [zCI] at hc;split at hc
   case h_2=>cases hc
   rename_i k hu;simp only [zC] at hc;obtain ⟨⟨_,ho⟩,hc⟩:=hc;have ho:=zH ho;obtain ⟨r,hr,hiff⟩:=zGI hT d h hl fs (i+1) hc (fun g hg=>hn g (by simp [hg])) (by omega);have h1:i<ds.length:=by omega
   have h2:i<es.length:=by omega
   have hx:=zG h1;have hy:=zG h2;obtain ⟨k',a,b,ha,hb⟩:=h i _ _ hx hy;rw [ha] at hx;rw [hb] at hy;have e1:=zCi (w:=w) hT hu hx;have e2:=zCi (w:=w) hT hu hy
   have e3:(Op.equalIn (d+1) f.type (.int k' a) (.int k' b)).run P w= .ok (a==b) w:=by
    simp only [Op.equalIn,Sem.run_bind,hT.desc (w:=w) hu (by simp),Result.andThen_ok];simp
   have hdx:ds.drop i= .int k' a::ds.drop (i+1):=by rw [List.drop_eq_getElem_cons h1,ha]
   have hdy:es.drop i= .int k' b::es.drop (i+1):=by rw [List.drop_eq_getElem_cons h2,hb]
   simp only [Op.eqFields,if_pos (hn f (by simp)),ho,Sem.run_bind,e1,e2,e3,Result.andThen_ok];rw [hdx,hdy]
   by_cases hab:a=b
   ·subst hab;refine ⟨r,by simpa using hr,?_⟩;simp [hiff]
   ·refine ⟨false,by simp [hab],?_⟩;simp [hab]
theorem zDe {T:Tab} : ∀ {fs:List Field} {i:Nat},zCI T i fs=true->∀ f∈fs,∃ k,T.desc f.type= .int k
 | [],_,_,f,hf=>by cases hf
 | g::fs,i,h,f,hf=>by
   simp only [zCI] at h;split at h
   case h_2=>cases h
   rename_i k hu;simp only [zC] at h;rcases zT.1 hf with rfl|hf
   ·exact ⟨k,hu⟩
   ·exact zDe h.2 f hf
theorem zJm {T:Tab} (hT:zAA P T) {t:TypeId} {fs:Array Field} (ht:T.desc t= .struct fs) (hu: ∀ f∈fs.toList,∃ k,T.desc f.type= .int k) (op:BinOp) (x y:Operand) (xs ys:Array Value) :
 (eqGuard op t x y (.agg xs) (.agg ys)).run P w= .ok () w:=by
 have:P.eqGuardType P.depth t=false:=by
  unfold Program.depth;simp only [Program.eqGuardType,hT.und ht (by simp)];rw [<- Array.any_toList,List.any_eq_false];intro f hf;obtain ⟨k,hk⟩:=hu f hf;simp [hT.und hk (by simp)]
 cases op<;>simp [eqGuard,run_program,this]
theorem zYf {T:Tab} (hT:zAA P T) {t:TypeId} {op:BinOp} {a b:AV} {x y:Value} {ox oy:Operand} (hx:y6 σ β a x) (hy:y6 σ β b y) :
 Snd P σ β w (bin T t op a b) (do eqGuard op t ox oy x y;binOp op t x y):=by
 unfold bin;split
 ·obtain ⟨rfl,ha⟩:=hx;obtain ⟨rfl,hb⟩:=hy;split
  ·rename_i hk _;subst hk;exact Snd.guarded (jI (by simp) (by simp)) (zNC ha)
  ·exact Snd.none
 ·obtain rfl:=hx;obtain rfl:=hy;split
  ·rename_i hd;exact Snd.guarded (jI (by simp) (by simp)) (zBW (zTD (hT.desc hd (by simp)) _ _) rfl rfl)
  ·exact Snd.none
 ·obtain ⟨ds,rfl,hds⟩:=hx;obtain ⟨es,rfl,hes⟩:=hy;split
  ·rename_i n u ht;split
   ·rename_i k r hu hs hn hr;obtain ⟨h1,h2,h3⟩:=zEJ hr hds hes;have hn':ds.length=n:=by rw [<- hds.length];exact zH hn
    obtain ⟨d,hd⟩:=zCK
    obtain ⟨i,hi⟩: ∃ i,P.info? u=some i:=by
     unfold Tab.desc at hu;cases e:zFP T.ty u with
     | none=>simp [e] at hu
     | some ti=>obtain ⟨i,_,hi,_⟩:=(hT u ti e).get;exact ⟨i,hi⟩
    have hsz:P.cellsOf u=1:=by rw [hT.cells hu (by simp)];exact zH hs
    obtain ⟨r',hr',hiff⟩:=zHW (w:=w) hT hu d h2 (List.range n) (fun i hi=>by simp at hi;omega)
    have e1:(Op.equal t (.agg ds.toArray) (.agg es.toArray)).run P w= .ok r w:=by
     rw [hd,run_equalIn_array w (d+1) _ _ (hT.und ht (by simp)) hi,hsz,hr']
     congr 1
     rw [Bool.eq_iff_iff,hiff,h3,zH2 hn' (by omega)]
    exact Snd.guarded (zMN hT ht hu op _ _ _ _) (zBW e1 rfl rfl)
   ·exact Snd.none
  ·rename_i fs ht;split
   ·rename_i r hs hn hr;obtain ⟨h1,h2,h3⟩:=zEJ hr hds hes;have hn':ds.length=fs.toList.length:=by rw [<- hds.length];exact zH hn
    obtain ⟨d,hd⟩:=zCK
    have hst : P.stoodInHeld t = false ∧ ∀ f ∈ fs.toList, f.name ≠ "_" := by
     unfold Tab.desc at ht;cases e:zFP T.ty t with
     | none=>simp [e] at ht
     | some ti=>simp only [e] at ht;exact (hT t ti e).stood fs ht
    have hund:=hT.und ht (by simp);have hfo:P.fieldsOf t=fs:=by unfold Program.fieldsOf;rw [hund]
    obtain ⟨r',hr',hiff⟩:=zGI (w:=w) hT d h2 h1 fs.toList 0 hs hst.2 (by omega)
    have e1:(Op.equal t (.agg ds.toArray) (.agg es.toArray)).run P w= .ok r w:=by
     rw [hd,run_equalIn_struct w (d+1) t _ _ (by rw [hfo];exact hund) hst.1,hfo,hr']
     congr 1
     rw [Bool.eq_iff_iff,hiff,h3,List.drop_zero,List.drop_zero]
    exact Snd.guarded (zJm hT ht (zDe hs) op _ _ _ _) (zBW e1 rfl rfl)
   ·exact Snd.none
  ·exact Snd.none
 ·exact zN3 hT hx hy
 ·exact Snd.none
end
end Go.Vm
/- The calm operations, more: parts, loads, addresses, slices. -/
namespace Go.Vm
open Go.RowKit
def zES (σ:Sig) (w:World) (base sz:Nat) (v:Value):Prop :=
 v= .slice none 0 0\/∃ b o n cap c c' T,v= .slice (some ⟨b,o,none⟩) n cap/\σ b=some (.cells c T (0,0))/\w.heap[b]? =some (.cells c' T (0,0))/\c.size=o+n*sz/\n<=cap/\o+cap*sz<=c'.size/\base<b
def zOD (v v':Value):Prop:= ∀ b o n c b' o' n' c',v= .slice (some ⟨b,o,none⟩) n c->v'= .slice (some ⟨b',o',none⟩) n' c'->b≠b'
def zA0 (σ:Sig) (w:World) (base sz:Nat) (vs:List Value):Prop:=(∀ v∈vs,zES σ w base sz v)/\vs.Pairwise zOD
theorem zA0.keep {σ τ:Sig} {w w':World} {base sz:Nat} {vs:List Value} (hx: ∀ b o,σ b=some o->τ b=some o) (hw: ∀ b o,σ b=some o->w'.heap[b]? =w.heap[b]?) (h:zA0 σ w base sz vs):zA0 τ w' base sz vs :=
 ⟨fun v hv=>by
   rcases h.1 v hv with e|⟨b,o,n,cap,c,c',T,h1,h2,h3,h4⟩
   ·exact .inl e
   ·exact .inr ⟨b,o,n,cap,c,c',T,h1,hx _ _ h2,by rw [hw _ _ h2];exact h3,h4⟩,h.2⟩
def zAf (σ:Sig) (β:yR) (w:World) (id:Nat):Ob->Prop
 | .row e T xs=>xs.length<=140737488355328/\match β[id]? with
   | none=>False
   | some none=>xs=[]
   | some (some p)=>p.sz=e.size/\p.L=xs.length/\p.o+p.L*p.sz<=p.N/\∃ c,w.heap[p.b]? =some (.cells c T (0,0))/\c.size=p.N/\
     ∀ (i:Nat) (x:e.T),xs[i]? =some x->∃ d,jG σ e x d/\∀ (j:Nat) (u:Value),d[j]? =some u->c[p.o+i*p.sz+j]? =some u
 | .flat T cs=> ∃ p,β[id]? =some (some p)/\p.o=0/\p.sz=cs.length/\p.L=1/\p.N=cs.length/\
    ∃ c,w.heap[p.b]? =some (.cells c T (0,0))/\jQ (y5 σ β) cs c.toList
 | .map k v m=>(m.map (·.1)).Nodup/\∃ p es clock,β[id]? =some (some p)/\w.heap[p.b]? =some (.map es clock)/\(es.size=m.length/\MapKept.Stamped es clock)/\
    ∀ (i:Nat) (x:k.T×v.T),m[i]? =some x->∃ (en:MapEntry) (dk dv:List Value),es[i]? =some en/\jG σ k x.1 dk/\en.key=yX k dk/\jG σ v x.2 dv/\en.val=yX v dv
 | .gmap k e m=>(m.map (·.1)).Nodup/\∃ p es clock,β[id]? =some (some p)/\w.heap[p.b]? =some (.map es clock)/\es.size=m.length/\
    (∀ (i:Nat) (x:k.T×List e.T),m[i]? =some x->∃ (en:MapEntry) (dk dv:List Value),es[i]? =some en/\jG σ k x.1 dk/\en.key=yX k dk/\jG σ (.sl e) x.2 dv/\en.val=yX (.sl e) dv)/\
    zA0 σ w p.b e.size (es.toList.map (·.val))/\MapKept.Stamped es clock
 | .grow e T xss=>xss.length<=140737488355328/\∃ p,β[id]? =some (some p)/\p.sz=1/\p.L=xss.length/\p.o+p.L<=p.N/\∃ c,w.heap[p.b]? =some (.cells c T (0,0))/\c.size=p.N/\
    (∀ (i:Nat) (x:List e.T),xss[i]? =some x->∃ v,jG σ (.sl e) x [v]/\c[p.o+i]? =some v)/\zA0 σ w p.b e.size ((c.toList.drop p.o).take p.L)
 | .fr X l=>β[id]? =some none/\∀ t,y6 σ β (yZ l t) (X.getD t undef)
structure Mem (σ:Sig) (β:yR) (hp:jJ) (w:World):Prop where
 ag:Ag σ w
 ob: ∀ id ob,hget hp id=some ob->zAf σ β w id ob
section
variable {P:Program} {σ:Sig} {β:yR} {w:World} {T:Tab} {hp:jJ}
theorem zAf.pln {id:Nat} {ob:Ob} (h:zAf σ β w id ob):zAf σ β w id ob.pln:=by
 cases ob with
 | row=>exact h
 | flat=>exact h
 | map=>exact h
 | fr=>exact h
 | gmap k e m =>
   obtain ⟨h0,p,es,clock,h1,h2,h3,h4,_,h6⟩:=h;exact ⟨h0,p,es,clock,h1,h2,⟨h3,h6⟩,h4⟩
 | grow e T xss =>
   obtain ⟨h0,p,h1,h2,h3,h4,c,h5,h6,h7,_⟩:=h;show xss.length<=140737488355328/\_;refine ⟨h0,?_⟩;simp only [h1];refine ⟨h2,h3,by rw [h2,Nat.mul_one];exact h4,c,h5,h6,fun i x hx=> ?_⟩;obtain ⟨v,e1,e2⟩:=h7 i x hx;refine ⟨[v],e1,fun j u hj=> ?_⟩;cases j with
   | zero=>simp at hj;subst hj;rw [h2];simpa using e2
   | succ j=>simp at hj
theorem zFx {id:Nat} {o:Ob} (h:hgp hp id=some o): ∃ o',hget hp id=some o'/\o'.pln=o:=by
 unfold hgp at h;split at h
 ·rename_i o' e;cases h;exact ⟨o',e,rfl⟩
 ·cases h
theorem Mem.obp (hm:Mem σ β hp w) {id:Nat} {o:Ob} (h:hgp hp id=some o):zAf σ β w id o:=by
 obtain ⟨o',h1,rfl⟩:=zFx h;exact (hm.ob _ _ h1).pln
theorem Addr.add_none (b o n:Nat):(⟨b,o,none⟩:Addr).add n=⟨b,o+n,none⟩:=by
 unfold Addr.add;split
 ·rename_i h;subst h;rfl
 ·rfl
theorem jX {b:Nat} {c:Array Value} {u:TypeId} {fz:Nat×Nat} (h:w.heap[b]? =some (.cells c u fz)) (o:Nat):w.cell? ⟨b,o,none⟩=c[o]? :=by
 simp [World.cell?,h]
theorem zBg {t:TypeId} {ti:TI} (ht:zOv P t ti) {b o:Nat} {ds:List Value} (hl:ds.length=ti.size) (hc: ∀ (j:Nat) (d:Value),ds[j]? =some d->w.cell? ⟨b,o+j,none⟩=some d)
 (h1:zAE ti.desc=false->ti.size=1) :
 ∃ val,(loadVar t ⟨b,o,none⟩).run P w= .ok val w/\(zAE ti.desc=true->val= .agg ds.toArray)/\(zAE ti.desc=false->ds=[val]):=by
 unfold loadVar;rw [Sem.run_bind,ht.run_isAgg,Result.andThen_ok];cases hag:zAE ti.desc with
 | true =>
   refine ⟨_,?_,fun _=>rfl,fun h=>by cases h⟩;have:=run_loadCells_list (P:=P) (w:=w) ⟨b,o,none⟩ ds (fun j v hj=>by rw [Addr.add_none];exact hc j v hj);simp only [if_true,Sem.run_bind,ht.run_sizeOf,Result.andThen_ok];rw [<- hl,this];rfl
 | false =>
   have h1:=h1 hag
   match ds,hl,hc with
   | [d],_,hc =>
     refine ⟨d,?_,fun h=>(by cases h),fun _=>rfl⟩;have:=hc 0 d rfl;simp only [Bool.false_eq_true,if_false];rw [run_load];rw [show o+0=o from rfl] at this;simp [this]
   | [],hl,_=>simp at hl;omega
   | _::_::_,hl,_=>simp at hl;omega
theorem zEI {α:Type} {l:List α} {i:Nat} {x d:α} (h:l[i]? =some x):l.getD i d=x:=by simp [List.getD,h]
theorem zLf {agg:Bool} {l:List AS} {ds:List Value} (h:jQ (y5 σ β) l ds) {k m:Nat} (hk:k+m<=l.length) (h1:agg=false->m=1) {val:Value}
 (hv1:agg=true->val= .agg ((ds.drop k).take m).toArray) (hv2:agg=false->(ds.drop k).take m=[val]):y6 σ β (part agg l k m) val:=by
 cases agg with
 | true=>exact ⟨_,hv1 rfl,(h.drop k).take m⟩
 | false =>
   have hm:=h1 rfl;subst hm;have hv:=hv2 rfl;obtain ⟨a,ha⟩: ∃ a,l[k]? =some a:=⟨_,zG (by omega)⟩;obtain ⟨d,hd,hr⟩:=h.get ha
   have:(ds.drop k).take 1=[d]:=by
    have h2:(ds.drop k)[0]? =some d:=by simpa using hd
    cases e:ds.drop k with
    | nil=>simp [e] at h2
    | cons x r=>simp [e] at h2;simp [h2]
   rw [this] at hv;obtain rfl:=(List.cons.inj hv).1;show y5 σ β (l.getD k .junk) d;rw [zEI ha];exact hr
theorem zP8 {c a b:AV} {x y z:Value} (hc:y6 σ β c x) (ha:y6 σ β a y) (hb:y6 σ β b z) :
 Snd P σ β w (z56 c a b) (do pure (if <- asBool x then y else z)):=by
 unfold z56;split
 ·obtain rfl:=hc;exact Snd.pure ⟨y,by simp [asBool],ha⟩
 ·obtain rfl:=hc;exact Snd.pure ⟨z,by simp [asBool],hb⟩
 ·exact Snd.none
theorem zWT {op:UnOp} {a:AV} {x:Value} (ha:y6 σ β a x):Snd P σ β w (cUn op a) (Op.unary op x):=by
 unfold cUn;split
 ·obtain rfl:=ha;exact Snd.ok ⟨_,by simp [Op.unary],rfl⟩
 ·obtain ⟨rfl,_⟩:=ha;exact zCR (by simp [Op.unary,Op.intArith])
 ·exact Snd.none
theorem zWJ {k:IntKind} {n:Int} (h:InK k n):k.wrap n=n:=h
theorem zPw (hT:zAA P T) {src dst:TypeId} {a:AV} {x:Value} {d0:TypeDesc} (hs:T.desc src=d0) (hd0:d0≠.invalid) (ha:y6 σ β a x):Snd P σ β w (z5q (T.desc dst) a) (convert src dst x):=by
 have run: ∀ {k k0:IntKind} {n:Int},T.desc dst= .int k->(convert src dst (.int k0 n)).run P w= .ok (.int k (k.wrap n)) w:=by
  intro k k0 n hd;unfold convert;rw [Sem.run_bind,hT.desc hs hd0,Result.andThen_ok,Sem.run_bind,hT.desc hd (by simp),Result.andThen_ok];simp [Conv.intToInt]
 unfold z5q;split
 ·rename_i k k0 n hd;obtain ⟨rfl,hn⟩:=ha;split
  ·exact Snd.ok ⟨_,by rw [run hd,zWJ hn],rfl,hn⟩
  ·exact Snd.mk hn.u64 fun _=>⟨_,run hd,rfl,InK.wrap _ _⟩
  ·have:=hn.u8;exact Snd.mk this fun _=>⟨_,by rw [run hd,IntWalk.i64_in _ (by omega)],rfl,InK.i64.2 (by unfold yP;omega)⟩
  ·exact Snd.mk (InK.i64.1 hn) fun _=>⟨_,run hd,rfl,InK.wrap _ _⟩
  ·exact Snd.ok ⟨_,run hd,rfl,InK.wrap _ _⟩
 ·exact Snd.none
theorem jH.get: ∀ {l:List AV} {m:List Value},jH σ β l m->∀ {i:Nat} {a:AV},l[i]? =some a->∃ b,m[i]? =some b/\y6 σ β a b :=
 fun h _ _ e=>jQ.get (zCL.1 h) e
theorem zS1 {a:AV} {x:Value} {i:Nat} (ha:y6 σ β a x):Snd P σ β w (z8w a i) (Instr.extract x i):=by
 unfold z8w;split
 ·split
  ·rename_i l v hv;obtain ⟨vs,rfl,hvs⟩:=ha;obtain ⟨b,hb,hr⟩:=hvs.get hv;exact Snd.pure ⟨b,by simp [Instr.extract,hb],hr⟩
  ·exact Snd.none
 ·exact Snd.none
theorem zHE {d:TypeDesc} {f off:Nat} {u:TypeId} (h:zJI d f=some (off,u)): ∃ fs fld,d= .struct fs/\fs[f]? =some fld/\fld.offset=off/\fld.type=u:=by
 unfold zJI at h;split at h
 ·rename_i fs;split at h
  ·rename_i fld hf;cases h;exact ⟨fs,fld,rfl,by simpa using hf,rfl,rfl⟩
  ·contradiction
 ·contradiction
def zHM (T:Tab):Prop:= ∀ t ti,zFP T.ty t=some ti->zAE ti.desc=false->ti.size=1
theorem zRO {t:TypeId} {ti:TI} (ht:zOv P t ti) {ds:List Value} {off:Nat} (hl:off+ti.size<=ds.length) (h1:zAE ti.desc=false->ti.size=1) :
 ∃ val,(Go.part t ds.toArray off).run P w= .ok val w/\(zAE ti.desc=true->val= .agg ((ds.drop off).take ti.size).toArray)/\(zAE ti.desc=false->(ds.drop off).take ti.size=[val]):=by
 unfold Go.part;rw [Sem.run_bind,ht.run_isAgg,Result.andThen_ok];cases hag:zAE ti.desc with
 | true =>
   refine ⟨_,by simp only [if_true,Sem.run_bind,ht.run_sizeOf,Result.andThen_ok];rfl,fun _=> ?_,fun h=>by cases h⟩
   congr 1
   apply Array.ext';simp [List.extract]
 | false =>
   have h1:=h1 hag;obtain ⟨d,hd⟩: ∃ d,ds[off]? =some d:=⟨_,zG (by omega)⟩;refine ⟨d,by simp [hd],fun h=>(by cases h),fun _=> ?_⟩;have h2:(ds.drop off)[0]? =some d:=by simpa using hd
   rw [h1];cases e:ds.drop off with
   | nil=>simp [e] at h2
   | cons x r=>simp [e] at h2;simp [h2]
theorem zMp (hT:zAA P T) (hO:zHM T) {t:TypeId} {f:Nat} {a:AV} {x:Value} (ha:y6 σ β a x):Snd P σ β w (zTx T t a f) (Instr.field t x f):=by
 unfold zTx;split
 ·rename_i l off u hf;split
  ·rename_i ti hi;refine Snd.fitting fun hle=> ?_;obtain ⟨ds,rfl,hds⟩:=ha;obtain ⟨fs,fld,hd,hfl,rfl,rfl⟩:=zHE hf;obtain ⟨val,hrun,hv1,hv2⟩:=zRO (w:=w) (hT _ _ hi) (ds:=ds) (off:=fld.offset) (by rw [<- hds.length];exact hle) (hO _ _ hi);refine ⟨val,?_,zLf hds hle (hO _ _ hi) hv1 hv2⟩;unfold Instr.field;rw [Sem.run_bind,hT.desc hd (by simp),Result.andThen_ok];simp [hfl,asAgg,hrun]
  ·exact Snd.none
 ·exact Snd.none
theorem zEP: ∀ {l:List AS} {ns:List Int} {ds:List Value},zCZ l=some ns->jQ (y5 σ β) l ds->ns.length=l.length/\ds.length=l.length/\
 ∀ i,i<l.length->ds[i]? =some (.int .i64 (ns.getD i 0))/\InK .i64 (ns.getD i 0)
 | [],ns,ds,h,hr=>by cases h;obtain rfl:=hr.len_nil;simp
 | .int .i64 n::r,ns,d::ds,h,hr=>by
   simp only [zCZ] at h;split at h
   ·rename_i l' hl';cases h;obtain ⟨h1,h2,h3⟩:=zEP hl' hr.2;refine ⟨by simp [h1],by simp [h2],fun i hi=> ?_⟩;cases i with
    | zero=>obtain ⟨rfl,hk⟩:=hr.1;simp [hk]
    | succ i=>simpa using h3 i (by simpa using hi)
   ·contradiction
 | .int .i64 _::_,_,[],_,hr=>hr.elim
theorem zGj {i:Int} (h:Int.blt' i=false):0<=i:=by
 cases i<;>simp [Int.blt'] at h ⊢
theorem zMz (hT:zAA P T) (hO:zHM T) {t:TypeId} {a i:AV} {lit:Bool} {x y:Value} (ha:y6 σ β a x) (hi:y6 σ β i y) :
 Snd P σ β w (zW9 T t a i lit) (Instr.index t x y):=by
 have run: ∀ {ds:List Value} {k:IntKind} {n:Int} {u m:Nat} {ti:TI} {d:Value},T.desc t= .array m u->T.info u=some ti->ti.size=1->zAE ti.desc=false->0<=n->n<m->ds.length=m->ds[n.toNat]? =some d->
  (Instr.index t (.agg ds.toArray) (.int k n)).run P w= .ok d w:=by
  intro ds k n u m ti d hd hu hs hag h0 hn hl hdn;unfold Instr.index;simp only [asIntOf,Sem.run_bind,Sem.run_pure,Result.andThen_ok,hT.desc (w:=w) hd (by simp)];rw [if_pos ⟨h0,hn⟩,Sem.run_bind,(hT _ _ hu).run_sizeOf,Result.andThen_ok,hs,Nat.mul_one];obtain ⟨val,h1,_,h3⟩:=zRO (w:=w) (hT _ _ hu) (ds:=ds) (off:=n.toNat) (by rw [hs];omega) (fun _=>hs);rw [h1];have h3:=h3 hag;rw [hs] at h3;have h2:(ds.drop n.toNat)[0]? =some d:=by simpa using hdn
  cases e:ds.drop n.toNat with
  | nil=>simp [e] at h2
  | cons q r=>simp [e] at h2 h3;rw [<- h3,h2]
 unfold zW9;split
 ·rename_i l k n m u hd;split
  ·rename_i ti hu;split
   ·rename_i hs hag hlen;have hlen:=zH hlen;obtain ⟨ds,rfl,hds⟩:=ha;obtain ⟨rfl,hk⟩:=hi;split
    ·split
     ·rename_i hb hz;have h0:=zGj hz;have hlt:n.toNat+1<=m:=by simpa [Nat.blt] using hb
      obtain ⟨a,ha⟩: ∃ a,l[n.toNat]? =some a:=⟨_,zG (by omega)⟩;obtain ⟨d,hd',hr⟩:=hds.get ha;exact Snd.ok ⟨d,run hd hu hs hag h0 (by omega) (by rw [<- hds.length];exact hlen) hd',by rw [zEI ha];exact hr⟩
     ·exact Snd.none
    ·split
     ·rename_i ns hns;obtain ⟨h1,h2,h3⟩:=zEP hns hds;refine Snd.need fun ⟨h0,hlt⟩=> ?_;obtain ⟨e1,e2⟩:=h3 n.toNat (by omega);exact ⟨_,run hd hu hs hag h0 (by omega) (by rw [<- hds.length];exact hlen) e1,rfl,e2⟩
     ·exact Snd.none
   ·exact Snd.none
  ·exact Snd.none
 ·exact Snd.none
theorem zBC {a:AV} {x:Value} {m:List AS} (h:y6 σ β a x) (e:a.flat=some m):jQ (y5 σ β) m x.cells.toList:=by
 unfold AV.flat at e;split at e
 ·contradiction
 ·rename_i s hs;cases e
  have:x.cells= #[x]:=by
   have hx:y5 σ β s x:=h;cases s with
   | int=>obtain ⟨rfl,_⟩:=hx;rfl
   | bool=>obtain rfl:=hx;rfl
   | val u=>obtain ⟨rfl,hu⟩:=hx;cases x<;>first|rfl|exact (hu _ rfl).elim
   | sl=>obtain ⟨a,cap,e,_⟩:=hx;obtain rfl:=(List.cons.inj e).1;rfl
   | mp=>obtain ⟨r,e,_⟩:=hx;obtain rfl:=(List.cons.inj e).1;rfl
   | pt _ o=>cases o with
     | none=>obtain rfl:=(List.cons.inj (show _=_ from hx)).1;rfl
     | some z=>obtain ⟨_,_,_,e,_⟩:=hx;obtain rfl:=(List.cons.inj e).1;rfl
   | ip=>obtain ⟨_,_,_,rfl,_⟩:=hx;rfl
   | ipi=>obtain ⟨_,_,_,rfl,_⟩:=hx;rfl
   | own id s n =>
     simp only [y5] at hx;split at hx
     ·exact hx.elim
     ·obtain ⟨rfl,_⟩:=hx;rfl
     ·obtain ⟨_,_,rfl,_⟩:=hx;rfl
   | ptr=>obtain ⟨_,_,rfl,_⟩:=hx;rfl
   | pti=>obtain ⟨_,_,rfl,_⟩:=hx;rfl
   | omp=>obtain ⟨_,_,rfl,_⟩:=hx;rfl
   | arr=>obtain ⟨_,_,rfl,_⟩:=hx;rfl
   | clo=>obtain ⟨_,rfl,_⟩:=hx;rfl
   | nq=>obtain ⟨_,rfl,_⟩:=hx;rfl
   | junk=>exact (hs rfl).elim
  rw [this];exact ⟨h,trivial⟩
 ·rename_i l;cases e;obtain ⟨ds,rfl,hds⟩:=h;exact hds
 ·contradiction
end
end Go.Vm
/- The calm operations, more: building, loads, addresses, slices. -/
namespace Go.Vm
open Go.RowKit
section
variable {P:Program} {σ:Sig} {β:yR} {w:World} {T:Tab} {hp:jJ}
theorem zB6 {α:Type} {l:List α} {i:Nat} (h:i<l.length): ∃ x,l[i]? =some x:=⟨_,zG h⟩
theorem jQ.getD {α β':Type} {R:α->β'->Prop} {l:List α} {m:List β'} (h:jQ R l m):l.length=m.length:=h.length
theorem foldl_set (off:Nat): ∀ (m:List Value) (k:Nat) (cs:List Value),off+k+m.length<=cs.length->
 ((m.zipIdx k).foldl (fun (cs:Array Value) (p:Value×Nat)=>cs.setIfInBounds (off+p.2) p.1) cs.toArray).toList=cs.take (off+k)++m++cs.drop (off+k+m.length)
 | [],k,cs,_=>by simp
 | x::m,k,cs,h=>by
   simp only [List.zipIdx_cons,List.foldl_cons];rw [show (cs.toArray.setIfInBounds (off+k) x)=(cs.set (off+k) x).toArray by simp];rw [foldl_set off m (k+1) (cs.set (off+k) x) (by simp at h ⊢;omega)];apply List.ext_getElem?;intro i;simp only [yA] at h;simp only [List.getElem?_append,List.getElem?_take,List.getElem?_drop,List.getElem?_set,qZ,zN,List.length_set,yA,List.getElem?_cons]
   repeat' split
   all_goals first|rfl|omega|(simp_all;omega)|skip
   all_goals (first|(congr 1;omega)|simp_all)
theorem zLP {place:Nat->Option (Nat×Nat)} : ∀ {l l':List AS} {ps:List (Nat×AV)} {vs:List (Nat×Value)} {ds:List Value},lay place l ps=some l'->jQ (y5 σ β) l ds->
 jQ (fun (p:Nat×AV) (q:Nat×Value)=>p.1=q.1/\y6 σ β p.2 q.2) ps vs->∃ ds',Instr.fill place ds.toArray vs=some ds'.toArray/\jQ (y5 σ β) l' ds'
 | l,l',[],[],ds,h,hr,_=>by cases h;exact ⟨ds,rfl,hr⟩
 | l,l',(i,v)::ps,(j,u)::vs,ds,h,hr,hv=>by
   obtain ⟨⟨rfl,hu⟩,hv⟩:=hv;simp only [lay] at h;split at h
   ·rename_i m off size hm hp;split at h
    ·rename_i hs hle;have hs:=zH hs;have hle:=zU hle;have hf:=zBC hu hm;have hlen:u.cells.toList.length=m.length:=hf.length.symm;have hsz:u.cells.size=m.length:=by simpa using hlen
     have hov:jQ (y5 σ β) (zAZ l off m) (ds.take off++u.cells.toList++ds.drop (off+u.cells.toList.length)):=by
      unfold zAZ;rw [hlen];exact ((hr.take _).append hf).append (hr.drop _)
     obtain ⟨ds',h1,h2⟩:=zLP h hov hv;refine ⟨ds',?_,h2⟩;simp only [Instr.fill,hp];have hdl:ds.length=l.length:=hr.length.symm;rw [if_neg (by simp [hsz,hs,hdl];omega)];have:=foldl_set off u.cells.toList 0 ds (by rw [hlen,hdl];omega);rw [<- h1]
     congr 1
     apply Array.ext'
     rw [show (u.cells.zipIdx.foldl (fun cs x=>cs.setIfInBounds (off+x.2) x.1) ds.toArray)=((u.cells.toList.zipIdx 0).foldl (fun (cs:Array Value) (p:Value×Nat)=>cs.setIfInBounds (off+p.2) p.1) ds.toArray) by
      rw [<- Array.foldl_toList];simp]
     rw [this];simp
    ·contradiction
   ·contradiction
 | _,_,[],_::_,_,_,_,h=>h.elim
 | _,_,_::_,[],_,_,_,h=>h.elim
theorem Tab.has_of {t:TypeId} (h:T.has t=true): ∃ ti,zFP T.ty t=some ti:=by
 unfold Tab.has at h;split at h
 ·rename_i ti e;exact ⟨ti,e⟩
 ·cases h
theorem zN6 (hT:zAA P T): ∀ {fs:List Field},fs.all (fun f=>T.has f.type)=true->
 fs.mapM (fun f=>(P.info? f.type).map fun i=>(f.offset,i.size))=some (fs.map fun f=>(f.offset,T.sizeOf f.type))
 | [],_=>rfl
 | f::fs,h=>by
   simp only [List.all_cons,zC] at h;obtain ⟨ti,e⟩:=Tab.has_of h.1;obtain ⟨i,_,hi,hs,_⟩:=(hT _ _ e).get;rw [List.mapM_cons,zN6 hT h.2];simp [hi,Tab.sizeOf,e,hs]
theorem zNL (hT:zAA P T) {t:TypeId} {ps:List (Nat×AV)} {vs:Array (Nat×Value)} (hv:jQ (fun (p:Nat×AV) (q:Nat×Value)=>p.1=q.1/\y6 σ β p.2 q.2) ps vs.toList) :
 Snd P σ β w (zXN T t ps) (Instr.build t vs):=by
 unfold zXN;split
 ·rename_i ti hti;have ht:=hT _ _ hti;obtain ⟨i,z,hi,hs,hb,hz,hzl⟩:=ht.get;have hz0:jQ (y5 σ β) ti.zero z.cells.toList:=by rw [hzl];exact zEe ht.zok
  split
  ·rename_i fs hd;split
   ·rename_i l hl hall;obtain ⟨ds',h1,h2⟩:=zLP hl hz0 hv;refine Snd.pure ⟨_,run_build w t vs ds'.toArray ?_,ds',rfl,h2⟩;unfold Program.built;rw [hi,ht.und,hd];simp only [hz,zN6 hT hall];rw [<- h1]
    congr 1
    funext i
    simp only [List.getElem?_toArray,List.getElem?_map];cases fs.toList[i]? <;>rfl
   ·exact Snd.none
  ·rename_i n u hd;split
   ·rename_i l hl hu;obtain ⟨ui,e⟩:=Tab.has_of hu;obtain ⟨iu,_,hiu,hsu,_⟩:=(hT _ _ e).get;obtain ⟨ds',h1,h2⟩:=zLP hl hz0 hv;refine Snd.pure ⟨_,run_build w t vs ds'.toArray ?_,ds',rfl,h2⟩;unfold Program.built;rw [hi,ht.und,hd];simp only [hz,hiu];rw [<- h1];simp [Tab.sizeOf,e,hsu]
   ·exact Snd.none
  ·exact Snd.none
 ·exact Snd.none
theorem zHh (hm:Mem σ β hp w) {b o:Nat} {ds:List Value} (h:zBu σ b o ds) (j:Nat) (d:Value) (hj:ds[j]? =some d):w.cell? ⟨b,o+j,none⟩=some d:=by
 obtain ⟨c,u,fz,e,r⟩:=h;obtain ⟨o',e1,h1⟩:=hm.ag _ _ e;obtain ⟨c',rfl,k⟩:=h1.cells;rw [jX e1];exact k _ _ (r j d hj)
theorem zBL {t:TypeId} {b o:Nat} :(Instr.loadAt t (.pointer (some ⟨b,o,none⟩))).run P w=(loadVar t ⟨b,o,none⟩).run P w:=by
 simp [Instr.loadAt,Instr.sureAddr]
theorem zFk {t:TypeId} {ti:TI} (ht:zOv P t ti) (h1:zAE ti.desc=false->ti.size=1) {l:List AS} {ds:List Value} (hr:jQ (y5 σ β) l ds) {b o k:Nat} (hk:k+ti.size<=l.length)
 (hc: ∀ (j:Nat) (d:Value),ds[j]? =some d->w.cell? ⟨b,o+j,none⟩=some d) :
 ∃ val,(Instr.loadAt t (.pointer (some ⟨b,o+k,none⟩))).run P w= .ok val w/\y6 σ β (part (zAE ti.desc) l k ti.size) val:=by
 have hlen:=hr.length
 obtain ⟨val,e1,e2,e3⟩:=zBg (w:=w) ht (b:=b) (o:=o+k) (ds:=(ds.drop k).take ti.size) (by simp;omega) (fun j d hj=>by
  rw [List.getElem?_take] at hj;split at hj
  ·rw [List.getElem?_drop] at hj;rw [Nat.add_assoc];exact hc _ _ hj
  ·cases hj) h1
 exact ⟨val,by rw [zBL];exact e1,zLf hr hk h1 e2 e3⟩
theorem zOd {k:IntKind} : ∀ {l:List AS} {ns:List Int} {ds:List Value},z7Q k l=some ns->jQ (y5 σ β) l ds->ns.length=l.length/\ds.length=l.length/\
 ∀ i,i<l.length->ds[i]? =some (.int k (ns.getD i 0))/\InK k (ns.getD i 0)
 | [],ns,ds,h,hr=>by cases h;obtain rfl:=hr.len_nil;simp
 | .int k' n::r,ns,d::ds,h,hr=>by
   simp only [z7Q] at h;split at h
   ·rename_i l' hk' hl';cases h;have hk':=of_decide_eq_true hk';subst hk';obtain ⟨h1,h2,h3⟩:=zOd hl' hr.2;refine ⟨by simp [h1],by simp [h2],fun i hi=> ?_⟩;cases i with
    | zero=>obtain ⟨rfl,hk⟩:=hr.1;simp [hk]
    | succ i=>simpa using h3 i (by simpa using hi)
   ·contradiction
 | .int _ _::_,_,[],_,hr=>hr.elim
theorem zL0 {d:TypeDesc} {l:List AS} {k:IntKind} {ns:List Int} (h:zEc d l=some (k,ns)):zAE d=false/\z7Q k l=some ns:=by
 unfold zEc at h;split at h
 ·split at h
  ·rename_i e;cases h;exact ⟨rfl,e⟩
  ·cases h
 ·cases h
theorem zMe (hO:zHM T) (hT:zAA P T) {t:TypeId} {ti:TI} (hti:T.info t=some ti) {l:List AS} {k:IntKind} {ns:List Int} (hli:zEc ti.desc l=some (k,ns)) {ds:List Value} (hr:jQ (y5 σ β) l ds) {b o j:Nat} (hj:j<l.length)
 (hc: ∀ (j:Nat) (d:Value),ds[j]? =some d->w.cell? ⟨b,o+j,none⟩=some d) :
 ∃ val,(Instr.loadAt t (.pointer (some ⟨b,o+j,none⟩))).run P w= .ok val w/\y5 σ β (.int k (ns.getD j 0)) val:=by
 obtain ⟨hag,hns⟩:=zL0 hli;obtain ⟨h1,h2,h3⟩:=zOd hns hr;obtain ⟨e1,e2⟩:=h3 j hj;have hs:=hO _ _ hti hag
 obtain ⟨val,f1,f2,f3⟩:=zBg (w:=w) (hT _ _ hti) (b:=b) (o:=o+j) (ds:=[.int k (ns.getD j 0)]) (by rw [hs];rfl) (fun i d hi=>by
  cases i with
  | zero=>simp at hi;subst hi;exact hc _ _ e1
  | succ i=>simp at hi) (fun _=>hs)
 have:=f3 hag;obtain rfl:=(List.cons.inj this).1;exact ⟨_,by rw [zBL];exact f1,rfl,e2⟩
theorem jG.cells_length {e:ETy} {x:e.T} :(e.cells x).length=e.size:=by
 induction e with
 | pair a b iha ihb=>simp [ETy.cells,ETy.size,iha,ihb]
 | _=>rfl
theorem zBf (hT:zAA P T) (hO:zHM T) (hm:Mem σ β hp w) {t:TypeId} {a:AV} {x:Value} (ha:y6 σ β a x):Snd P σ β w (zL3 T t hp a) (Instr.loadAt t x):=by
 unfold zL3;split
 ·rename_i s ti hti;have ht:=hT _ _ hti;have h1:=hO _ _ hti;have hx:y5 σ β s x:=ha;split
  ·obtain ⟨b,o,d,rfl,he,hc⟩:=hx;exact Snd.fitting fun hle=>zFk ht h1 (he.cells (β:=β)) (by rw [jG.cells_length];exact hle) (zHh hm hc)
  ·split
   ·rename_i e o _ hle;have hle:=zU hle;refine Snd.mk trivial fun hq=> ?_;obtain ⟨x',rfl⟩:=Option.isSome_iff_exists.1 (show o.isSome=true from hq);obtain ⟨b,off,d,e1,he,hc⟩:=hx;obtain rfl:=(List.cons.inj e1).1;exact zFk (k:=0) ht h1 (he.cells (β:=β)) (by rw [jG.cells_length];omega) (zHh hm hc)
   ·exact Snd.none
  ·split
   ·rename_i k ns hns;obtain ⟨b,o,d,rfl,he,hc,hj⟩:=hx;exact Snd.ok (zMe hO hT hti hns (he.cells (β:=β)) (by rw [jG.cells_length];exact hj) (zHh hm hc))
   ·exact Snd.none
  ·split
   ·rename_i e u xs hid;obtain ⟨p,hp',rfl,hi⟩:=hx;have:=hm.obp hid;obtain ⟨_,this⟩:=this;simp only [hp'] at this;obtain ⟨q1,q2,q3,c,q4,q5,q6⟩:=this;obtain ⟨y,hy⟩:=zB6 (l:=xs) (q2▸hi);obtain ⟨d,he,hc⟩:=q6 _ _ hy;rw [zEI hy];exact Snd.fitting fun hle=>zFk ht h1 (he.cells (β:=β)) (by rw [jG.cells_length];exact hle) (fun j d hj=>by rw [jX q4];exact hc j d hj)
   ·rename_i u cs hid;split
    ·obtain ⟨p,hp',rfl,hi⟩:=hx;obtain ⟨p2,q0,q1,q2,q3,q4,c,q5,q6⟩:=hm.obp hid;rw [hp'] at q0;cases q0;refine Snd.fitting fun hle=> ?_;have:=zFk (w:=w) (b:=p.b) (o:=0) ht h1 q6 hle (fun j d hj=>by rw [jX q5];simpa using hj);simpa [q1] using this
    ·exact Snd.none
   ·exact Snd.none
  ·split
   ·rename_i e u xs hid;split
    ·rename_i k ns hns;obtain ⟨p,hp',rfl,hi,hj⟩:=hx;have:=hm.obp hid;obtain ⟨_,this⟩:=this;simp only [hp'] at this;obtain ⟨q1,q2,q3,c,q4,q5,q6⟩:=this;obtain ⟨y,hy⟩:=zB6 (l:=xs) (q2▸hi);obtain ⟨d,he,hc⟩:=q6 _ _ hy;rw [zEI hy] at hns;exact Snd.ok (zMe hO hT hti hns (he.cells (β:=β)) (by rw [jG.cells_length];omega) (fun j d hj=>by rw [jX q4];exact hc j d hj))
    ·exact Snd.none
   ·rename_i u cs hid;split
    ·rename_i k ns hns;obtain ⟨p,hp',rfl,hi,hj⟩:=hx;obtain ⟨p2,q0,q1,q2,q3,q4,c,q5,q6⟩:=hm.obp hid;rw [hp'] at q0;cases q0;have:=zMe (w:=w) (b:=p.b) (o:=0) hO hT hti hns q6 (j:=_) (by rw [<- q2];exact hj) (fun j d hj=>by rw [jX q5];simpa using hj);exact Snd.ok (by simpa [q1] using this)
    ·exact Snd.none
   ·exact Snd.none
  ·exact Snd.none
 ·exact Snd.none
end
end Go.Vm
/- The calm operations, more: addresses, slices, lengths. -/
namespace Go.Vm
open Go.RowKit
section
variable {P:Program} {σ:Sig} {β:yR} {w:World} {T:Tab} {hp:jJ}
theorem zH4 (hT:zAA P T) {t:TypeId} {f:Nat} {a:AV} {x:Value} (ha:y6 σ β a x):Snd P σ β w (zGn T t a f) (Instr.fieldAt t x f):=by
 have run: ∀ {off:Nat} {u:TypeId} {b o:Nat},zJI (T.desc t) f=some (off,u)->Nat.beq (T.sizeOf u) 0=false->(Instr.fieldAt t (.pointer (some ⟨b,o,none⟩)) f).run P w= .ok (.pointer (some ⟨b,o+off,none⟩)) w:=by
  intro off u b o hf hz;obtain ⟨fs,fld,hd,hfl,rfl,rfl⟩:=zHE hf;unfold Instr.fieldAt;rw [Sem.run_bind,hT.desc hd (by simp),Result.andThen_ok]
  have hs:(sizeOf fld.type).run P w= .ok (T.sizeOf fld.type) w:=by
   unfold Tab.sizeOf at hz ⊢;cases e:zFP T.ty fld.type with
   | none=>simp [e] at hz
   | some ti=>exact (hT _ _ e).run_sizeOf
  have hne:T.sizeOf fld.type≠0:=by intro e;rw [e] at hz;cases hz
  simp [hfl,Instr.sureAddr,fieldPlace,hs,hne,Addr.add_none]
 unfold zGn;split
 ·rename_i s off u hf;have hx:y5 σ β s x:=ha;split
  ·rename_i hz;obtain ⟨b,o,d,rfl,he,hc⟩:=hx;exact Snd.ok ⟨_,run hf hz,b,o,d,by rw [Nat.add_assoc],he,hc⟩
  ·rename_i e o hz;refine Snd.need fun hq=> ?_;obtain ⟨x',rfl⟩:=Option.isSome_iff_exists.1 hq;obtain ⟨b,off,d,e1,he,hc⟩:=hx;obtain rfl:=(List.cons.inj e1).1;exact ⟨_,run hf hz,b,off,d,rfl,he,hc⟩
  ·rename_i hz;obtain ⟨p,hp',rfl,hi⟩:=hx;exact Snd.ok ⟨_,run hf hz,p,hp',by rw [Nat.add_assoc],hi⟩
  ·exact Snd.none
 ·exact Snd.none
theorem zVM {a v:AV} {p q:Option Prop} {x:Value} (ha:y6 σ β a x) (h:z9T a=some (p,q,v)):Opt p/\(Opt q->(∃ ad,x= .pointer (some ad))/\y6 σ β v x):=by
 unfold z9T at h;split at h
 ·cases h;obtain ⟨b,o,d,rfl,he,hc⟩:=ha;exact ⟨trivial,fun _=>⟨⟨_,rfl⟩,b,o,d,rfl,he,hc⟩⟩
 ·rename_i e o;cases h;refine ⟨trivial,fun hq=> ?_⟩;cases o with
  | none=>cases hq
  | some z =>
    refine ⟨?_,ha⟩;obtain ⟨b,o,d,e1,_⟩:=ha;exact ⟨_,(List.cons.inj e1).1⟩
 ·cases h;obtain ⟨p,hp',rfl,hi⟩:=ha;exact ⟨trivial,fun _=>⟨⟨_,rfl⟩,p,hp',rfl,hi⟩⟩
 ·cases h
theorem zCx (hT:zAA P T) {u:TypeId} (h:T.sizeOf u≠0):(sizeOf u).run P w= .ok (T.sizeOf u) w:=by
 unfold Tab.sizeOf at h ⊢;cases e:zFP T.ty u with
 | none=>simp [e] at h
 | some ti=>exact (hT _ _ e).run_sizeOf
theorem zBV (hT:zAA P T) {t u:TypeId} {n b o:Nat} {k:IntKind} {i:Int} (hd:T.desc t= .array n u) (hu:T.sizeOf u≠0) (h0:0<=i) (hn:i<n) :
 (Instr.indexAt t (.pointer (some ⟨b,o,none⟩)) (.int k i)).run P w= .ok (.pointer (some ⟨b,o+i.toNat*T.sizeOf u,none⟩)) w:=by
 unfold Instr.indexAt;simp only [asIntOf,Sem.run_bind,Sem.run_pure,Result.andThen_ok,hT.desc (w:=w) hd (by simp),Instr.sureAddr];rw [if_pos ⟨h0,hn⟩];simp [zCx (w:=w) hT hu,Addr.add_none]
theorem zFj (hT:zAA P T) {t u:TypeId} {n cap b o:Nat} {k:IntKind} {i:Int} (hd:T.desc t= .slice u) (hu:T.sizeOf u≠0) (h0:0<=i) (hn:i<n) :
 (Instr.indexAt t (.slice (some ⟨b,o,none⟩) n cap) (.int k i)).run P w= .ok (.pointer (some ⟨b,o+i.toNat*T.sizeOf u,none⟩)) w:=by
 unfold Instr.indexAt;simp only [asIntOf,Sem.run_bind,Sem.run_pure,Result.andThen_ok,hT.desc (w:=w) hd (by simp)];rw [if_pos ⟨h0,hn⟩];simp [zCx (w:=w) hT hu,Addr.add_none]
theorem zDj (hT:zAA P T) (hm:Mem σ β hp w) {t:TypeId} {a i:AV} {lit:Bool} {x y:Value} (ha:y6 σ β a x) (hi:y6 σ β i y) :
 Snd P σ β w (zA3 T t hp a i lit) (Instr.indexAt t x y):=by
 unfold zA3;split
 ·rename_i s k i n u hd;obtain ⟨rfl,hk⟩:=hi;have hx:y5 σ β s x:=ha;split
  ·split
   ·rename_i hb hz hs;have h0:=zGj hz;have hlt:i.toNat+1<=n:=by simpa [Nat.blt] using hb
    obtain ⟨b,o,d,rfl,he,hc⟩:=hx;have hs':T.sizeOf u≠0:=by intro e;rw [e] at hs;cases hs
    exact Snd.ok ⟨_,zBV hT hd hs' h0 (by omega),b,o,d,by rw [Nat.add_assoc],he,hc⟩
   ·rename_i hb hz hs;have h0:=zGj hz;have hlt:i.toNat+1<=n:=by simpa [Nat.blt] using hb
    obtain ⟨p,hp',rfl,hi⟩:=hx;have hs':T.sizeOf u≠0:=by intro e;rw [e] at hs;cases hs
    exact Snd.ok ⟨_,zBV hT hd hs' h0 (by omega),p,hp',by rw [Nat.add_assoc],hi⟩
   ·exact Snd.none
  ·split
   ·rename_i hs;split
    ·rename_i hb;obtain ⟨b,o,d,rfl,he,hc⟩:=hx;have hb:=zH hb;refine Snd.need fun ⟨h0,hlt⟩=>⟨_,zBV hT hd (by omega) h0 hlt,b,o,d,by rw [hs];simp,he,hc,by omega⟩
    ·exact Snd.none
   ·rename_i hs;split
    ·rename_i e u' xs hid;split
     ·rename_i hb;have hb:=zH hb;obtain ⟨p,hp',rfl,hi⟩:=hx;have:=(hm.obp hid).2;simp only [hp'] at this;have hsz:=this.1;refine Snd.need fun ⟨h0,hlt⟩=>⟨_,zBV hT hd (by omega) h0 hlt,p,hp',by rw [hs];simp,hi,by omega⟩
     ·exact Snd.none
    ·rename_i u' cs hid;split
     ·rename_i hb;have hb:=zH hb;obtain ⟨p,hp',rfl,hi⟩:=hx;obtain ⟨p2,q0,q1,q2,q3,q4,c,q5,q6⟩:=hm.obp hid;rw [hp'] at q0;cases q0;refine Snd.need fun ⟨h0,hlt⟩=>⟨_,zBV hT hd (by omega) h0 hlt,p,hp',by rw [hs];simp,hi,by omega⟩
     ·exact Snd.none
    ·exact Snd.none
   ·exact Snd.none
 ·rename_i s k i u hd;obtain ⟨rfl,hk⟩:=hi;have hx:y5 σ β s x:=ha;split
  ·rename_i e xs;split
   ·rename_i hb hz';have hz:T.sizeOf u≠0:=by intro e;rw [e] at hz';cases hz'
    have hb:=zH hb;refine Snd.need fun ⟨h0,hlt⟩=> ?_;obtain ⟨a,cap,e1,hle,hcap,hr⟩:=hx;obtain rfl:=(List.cons.inj e1).1;obtain ⟨y,hy⟩:=zB6 (l:=xs) (i:=i.toNat) (by omega);obtain ⟨b,o,rfl,hr'⟩:=hr (by rintro rfl;simp at hy);obtain ⟨d,he,hc⟩:=hr' _ _ hy;refine ⟨_,zFj hT hd hz h0 hlt,b,o+i.toNat*e.size,d,by rw [hb];rfl,by rw [zEI hy];exact he,hc⟩
   ·exact Snd.none
  ·rename_i id s n;split
   ·rename_i e u' xs hid;split
    ·rename_i hb hz';have hz:T.sizeOf u≠0:=by intro e;rw [e] at hz';cases hz'
     have hb:=zH hb;refine Snd.need fun ⟨h0,hlt⟩=> ?_;have:=(hm.obp hid).2;simp only [y5] at hx;cases hβ:β[id]? with
     | none=>simp [hβ] at hx
     | some q =>
       cases q with
       | none=>simp only [hβ] at hx;omega
       | some p =>
         simp only [hβ] at hx this;obtain ⟨a,cap,rfl,h1,h2,h3,h4⟩:=hx;obtain rfl:a=_:=h2.resolve_left (by omega);refine ⟨_,zFj hT hd hz h0 (by omega),p,hβ,?_,by omega⟩;rw [hb,<- this.1,Nat.add_mul];simp [Nat.add_assoc]
    ·exact Snd.none
   ·exact Snd.none
  ·exact Snd.none
 ·exact Snd.none
theorem zF1 {n:Nat} (h:n<=140737488355328):InK .i64 (n:Int):=InK.i64.2 (by unfold yP;omega)
def zMS (d:TypeDesc) (x:Value):Sem Value :=
 match d,x with
  | .string,.string s=>pure (goInt s.size)
  | .array n _,_=>pure (goInt n)
  | .pointer arr,_=>do
    let .array n _ ← underlying arr | stuck "len: pointer to array expected"
    pure (goInt n)
  | .slice _,.slice _ n _=>pure (goInt n)
  | .map _ _,.map none|.chan _ _,.chan none=>pure (goInt 0)
  | .map _ _,.map (some r)=>do
    let .map entries _ ← getObj r | stuck "len: map expected"
    pure (goInt entries.size)
  | .chan _ _,.chan (some r)=>do
    let .chan _ buf _ _ _ timer ← getObj r | stuck "len: channel expected"
    pure (goInt (if timer then 0 else buf.size))
  | _, _ => stuck "len: string, array, pointer to array, slice, map or channel expected"
theorem z5a (hT:zAA P T) {ts:Array TypeId} {t:TypeId} (ht:ts[0]? =some t) {d:TypeDesc} (hd:T.desc t=d) (hne:d≠.invalid) (ty:TypeId) (x:Value) :
 (Builtin.len_ ts ty #[x]).run P w=(zMS d x).run P w:=by
 unfold Builtin.len_ zMS;simp only [ht];rw [show (#[x]:Array Value)[0]? =some x from rfl];simp only [Sem.run_bind,hT.desc (w:=w) hd hne,Result.andThen_ok];rfl
theorem zPg (hT:zAA P T) (hm:Mem σ β hp w) {ts:Array TypeId} {ty t:TypeId} {a:AV} {x:Value} (ht:ts[0]? =some t) (ha:y6 σ β a x):Snd P σ β w (lenOf hp (T.desc t) a) (Builtin.len_ ts ty #[x]):=by
 have run: ∀ {d:TypeDesc},T.desc t=d->d≠.invalid->_:=fun {d} hd hne=>z5a (w:=w) hT ht hd hne ty x;unfold lenOf;split
 ·rename_i n u l hd;split
  ·rename_i hle;exact Snd.ok ⟨_,by rw [run hd (by simp)];rfl,rfl,zF1 (zU hle)⟩
  ·exact Snd.none
 ·rename_i hd;obtain ⟨b,cap,e1,hle,_⟩:=ha;obtain rfl:=(List.cons.inj e1).1;exact Snd.mk hle fun _=>⟨_,by rw [run hd (by simp)];rfl,rfl,zF1 hle⟩
 ·rename_i id s n hd;split
  ·rename_i e u xs hid;have:=hm.obp hid;obtain ⟨hl,this⟩:=this;have hx:y5 σ β (.own id s n) x:=ha;simp only [y5] at hx;cases hβ:β[id]? with
   | none=>simp [hβ] at hx
   | some q =>
     cases q with
     | none =>
       simp only [hβ] at hx;obtain ⟨rfl,rfl,rfl⟩:=hx;exact Snd.mk (by simp [Opt]) fun _=>⟨_,by rw [run hd (by simp)];rfl,rfl,zF1 (by omega)⟩
     | some p =>
       simp only [hβ] at hx this;obtain ⟨a,cap,rfl,h1,h2,h3,h4⟩:=hx;have hn:n<=140737488355328:=by omega
       exact Snd.mk hn fun _=>⟨_,by rw [run hd (by simp)];rfl,rfl,zF1 hn⟩
  ·exact Snd.none
 ·rename_i hd;obtain ⟨rfl,_⟩:=ha;exact Snd.ok ⟨_,by rw [run hd (by simp)];rfl,rfl,rfl⟩
 ·rename_i hd;obtain ⟨rfl,_⟩:=ha;exact Snd.ok ⟨_,by rw [run hd (by simp)];rfl,rfl,rfl⟩
 ·rename_i k v m hd;obtain ⟨r,e1,hle,hn,hh⟩:=ha;obtain rfl:=(List.cons.inj e1).1;cases r with
  | none =>
    obtain rfl:=hn rfl;exact Snd.mk trivial fun hle=>⟨_,by rw [run hd (by simp)];rfl,rfl,zF1 hle⟩
  | some b =>
    obtain ⟨es,clock,h1,h2,h3⟩:=hh b rfl;obtain ⟨o',h4,q2⟩:=hm.ag _ _ h1;obtain rfl:=q2.map;refine Snd.mk trivial fun hle=>⟨_,by rw [run hd (by simp)];simp [zMS,getObj,Sem.run,h4,goInt];rfl,?_,zF1 hle⟩;rw [h2.1]
 ·rename_i id hd;split
  ·rename_i k v m hid;obtain ⟨hl,p,es,clock,h1,h2,h3,h4⟩:=hm.obp hid;obtain ⟨p',h1',rfl,_⟩:=ha;rw [h1] at h1';cases h1';refine Snd.mk trivial fun hl=>⟨_,by rw [run hd (by simp)];simp [zMS,getObj,Sem.run,h2,goInt];rfl,?_,zF1 hl⟩;rw [h3.1]
  ·exact Snd.none
 ·exact Snd.none
end
end Go.Vm
