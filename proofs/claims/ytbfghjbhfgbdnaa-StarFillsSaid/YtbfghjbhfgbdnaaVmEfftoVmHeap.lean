/- A part of the proofs of the laws. -/
import Derived.Test.YtbfghjbhfgbdnaaVmDefstoVmG
import Derived.CallsIn
import Derived.OrdersIn
import Derived.DeepKeys3
import Derived.MapKept
import Derived.TacticsIn
set_option linter.unusedSimpArgs false
set_option linter.unusedVariables false
set_option maxHeartbeats 8000000
set_option maxRecDepth 100000
namespace Go.Vm
open Go.RowKit
def zJJ (P:Program) (B:Base) (o:Oper) (ρ:Operand->Value) (st':St) (tmps:Array Value) (w:World):Prop :=
 ∃ v w' σ' β',((execOp ρ o).run P w= .ok (.value v) w'\/((execOp ρ o).run P w= .ok .skip w'/\v=undef))/\GG B σ' β' st' (zHM tmps o.dst v) w'
def zWT (P:Program) (B:Base) (M:yN) (o:Oper) (ρ:Operand->Value) (st':St) (tmps:Array Value) (w:World):Prop :=
 ∃ v w' σ',((execOp ρ o).run P w= .ok (.value v) w'\/((execOp ρ o).run P w= .ok .skip w'/\v=undef))/\GG B σ' M st' (zHM tmps o.dst v) w'
theorem zWT.done {P:Program} {B:Base} {M:yN} {o:Oper} {ρ:Operand->Value} {st':St} {tmps:Array Value} {w:World} (h:zWT P B M o ρ st' tmps w):zJJ P B o ρ st' tmps w :=
 let ⟨v,w',σ',h1,h2⟩:=h;⟨v,w',σ',M,h1,h2⟩
section
variable {P:Program} {B:Base} {w:World} {I:Sig} {M:yN} {st:St} {tmps:Array Value} {T:Tab} {o:Oper} {ρ:Operand->Value}
theorem Below.alloc' {b:Nat} (w:World) (o:Obj) (h:b<=w.heap.size):Below b w (w.alloc o):=(Below.refl b w).alloc h o
theorem alloc_old (w:World) (o:Obj) (k:Nat) (h:k<w.heap.size):(w.alloc o).heap[k]? =w.heap[k]? :=Go.heap_alloc_old w o h
theorem zKK (h:GG B I M st tmps w) (hd:zBM o.dst tmps) {t:TypeId} {cs:List AS} {c:Array Value} (hc:jZ (y7 I M) cs c.toList)
 (hrun:(execOp ρ o).run P w= .ok (.value (.pointer (some ⟨w.heap.size,0,none⟩))) (w.alloc (.cells c t))):zJJ P B o ρ (zC5 st o.dst t cs) tmps w:=by
 refine ⟨_,_,I,_,.inl hrun,h.fresh (q:=some ⟨w.heap.size,0,cs.length,cs.length,1⟩) hd (alloc_old w _) (Below.alloc' w _ h.bel.size) (by rintro p ⟨⟩;rfl) ?_ ?_⟩
 ·refine ⟨⟨w.heap.size,0,cs.length,cs.length,1⟩,by rw [<- h.len];simp,rfl,rfl,rfl,rfl,c,Go.heap_alloc_new w _,hc.mono fun _ _=>y7.more _⟩
 ·exact ⟨⟨w.heap.size,0,cs.length,cs.length,1⟩,by rw [<- h.len];simp,by simp,Nat.lt_succ_self 0⟩
theorem zQ9 (h:GG B I M st tmps w) (hd:zBM o.dst tmps) {t:TypeId} {x:Operand} (ho:o.op= .box t x) {a:AV} (ha:qA I M a (ρ x)) {cs:List AS} (hf:a.flat=some cs) :
 zJJ P B o ρ (zC5 st o.dst t cs) tmps w:=by
 refine zKK h hd (zBW ha hf) ?_;simp [execOp,ho,Instr.box,newVar,newRow]
theorem zMk (hT:zAZ P T) (h:GG B I M st tmps w) (hd:zBM o.dst tmps) {t:TypeId} (ho:o.op= .alloc t) {ti:TI} (hti:T.info t=some ti) :
 zJJ P B o ρ (zC5 st o.dst t ti.zero) tmps w:=by
 obtain ⟨i,z,hi,hs,hb,hz,hzl⟩:=(hT _ _ hti).get;refine zKK (c:=z.cells) h hd (by rw [hzl];exact zEk (hT _ _ hti).zok) ?_;simp [execOp,ho,Instr.alloc,zeroValue,typeInfo,hi,hz,newVar,newRow]
theorem zL1 (h:GG B I M st tmps w) (hd:zBM o.dst tmps) {x:Operand} (ho:o.op= .assign x) {a:AV} (ha:qA I M a (ρ x)) {t:TypeId} {p q:Option Prop} {st':St}
 (he:zO9 T t a st o.dst=some (p,q,st')):Opt p/\(Opt q->zJJ P B o ρ st' tmps w):=by
 unfold zO9 at he;split at he
 ·split at he
  ·split at he
   ·rename_i u hdc ui hui e hety;cases he;obtain ⟨h1,_⟩:=ha;refine ⟨trivial,fun _=>⟨_,w,I,M++[none],.inl (by simp [execOp,ho];rfl),?_⟩⟩;refine h.fresh hd (fun _ _=>rfl) (Below.refl _ _) (by rintro p ⟨⟩) ?_ ?_
    ·refine ⟨by simp,?_⟩;have:(M++[none])[st.next]? =some none:=by rw [<- h.len];simp
     rw [this]
    ·show y7 I (M++[none]) (.own st.next 0 0) (ρ x);have:(M++[none])[st.next]? =some none:=by rw [<- h.len];simp
     simp [y7,this,h1]
   ·cases he
  ·cases he
 ·cases he
theorem jI.one: ∀ {e:ETy} {x:e.T} {ds:List Value},jI I e x ds->∀ u∈ds,u.oneCell'=true
 | .int _,_,_,h=>by obtain ⟨rfl,_⟩:=h;simp [Value.oneCell']
 | .bool,_,_,h=>by rw [show _=_ from h];simp [Value.oneCell']
 | .arr2,_,_,h=>by obtain ⟨rfl,_⟩:=h;simp [Value.oneCell']
 | .arr3,_,_,h=>by obtain ⟨rfl,_⟩:=h;simp [Value.oneCell']
 | .pair _ _,_,_,h=>by obtain ⟨d1,d2,rfl,h1,h2⟩:=h;intro u hu;rcases zY.1 hu with hu|hu;exact h1.one u hu;exact h2.one u hu
 | .sl _,_,_,h=>by obtain ⟨a,cap,rfl,_⟩:=h;simp [Value.oneCell']
 | .mp _ _,_,_,h=>by obtain ⟨r,rfl,_⟩:=h;simp [Value.oneCell']
 | .pt _,none,_,h=>by rw [show _=_ from h];simp [Value.oneCell']
 | .pt _,some _,_,h=>by obtain ⟨b,off,d,rfl,_⟩:=h;simp [Value.oneCell']
 | .unit,_,_,h=>by rw [show _=_ from h];simp
 | .fnc,o,_,h=>by rw [show _=_ from h];cases o<;>simp [fnV,Value.oneCell']
theorem zEY {e:ETy} {look:Nat->Option Value} : ∀ {xs:List e.T} {k:Nat},(∀ (i:Nat) (x:e.T),xs[i]? =some x->∃ d,jI I e x d/\∀ (j:Nat) (u:Value),d[j]? =some u->look (k+i*e.size+j)=some u)->
 ∃ dss:List (List Value),jZ (jI I e) xs dss/\∀ (j:Nat) (u:Value),dss.flatten[j]? =some u->look (k+j)=some u
 | [],k,_=>⟨[],trivial,by simp⟩
 | x ::xs,k,h=>by
   obtain ⟨d,hd,hl⟩:=h 0 x rfl
   obtain ⟨dss,h1,h2⟩:=zEY (xs:=xs) (k:=k+e.size) (fun i y hy=>by
    obtain ⟨d',h3,h4⟩:=h (i+1) y (by simpa using hy);refine ⟨d',h3,fun j u hu=> ?_⟩;have:=h4 j u hu;rw [Nat.succ_mul] at this
    rw [<- this];congr 1;omega)
   refine ⟨d::dss,⟨hd,h1⟩,fun j u hu=> ?_⟩;simp only [List.flatten_cons,List.getElem?_append] at hu;split at hu
   ·have:=hl j u hu;simpa using this
   ·rename_i hge;have:=h2 _ _ hu;rw [<- this];have:=hd.length
    congr 1;omega
theorem zAu {e:ETy} : ∀ {xs:List e.T} {dss:List (List Value)},jZ (jI I e) xs dss->dss.flatten.length=xs.length*e.size
 | [],[],_=>by simp
 | _::_,_::_,h=>by simp only [List.flatten_cons,z7,zZ,zAu h.2,h.1.length,Nat.succ_mul];omega
 | [],_::_,h=>h.elim
 | _::_,[],h=>h.elim
theorem zC1 {e:ETy} {look:Nat->Option Value} : ∀ {xs:List e.T} {dss:List (List Value)} {k:Nat},jZ (jI I e) xs dss->(∀ (j:Nat) (u:Value),dss.flatten[j]? =some u->look (k+j)=some u)->
 ∀ (i:Nat) (x:e.T),xs[i]? =some x->∃ d,jI I e x d/\∀ (j:Nat) (u:Value),d[j]? =some u->look (k+i*e.size+j)=some u
 | x::xs,d::dss,k,h,hl,0,y,hy=>by
   simp at hy;subst hy;refine ⟨d,h.1,fun j u hu=> ?_⟩;have:=hl j u (by simp only [List.flatten_cons,List.getElem?_append];rw [if_pos (zG.1 hu).1];exact hu);simpa using this
 | x ::xs,d::dss,k,h,hl,i+1,y,hy=>by
   have hlen:=h.1.length
   obtain ⟨d',h1,h2⟩:=zC1 (k:=k+e.size) h.2 (fun j u hu=>by
    have:=hl (e.size+j) u (by simp only [List.flatten_cons,List.getElem?_append];rw [if_neg (by omega),hlen,Nat.add_sub_cancel_left];exact hu)
    rw [<- this];congr 1;omega) i y (by simpa using hy)
   refine ⟨d',h1,fun j u hu=> ?_⟩;rw [<- h2 j u hu,Nat.succ_mul];congr 1;omega
 | [],_,_,_,_,_,_,hy=>by simp at hy
 | _::_,[],_,h,_,_,_,_=>h.elim
theorem Below.setRow {b:Nat} (w:World) (g:Nat) (cs:Array Value) (h:b<=g):Below b w (w.setRow g cs) :=
 ⟨⟨rfl,rfl,rfl,by simp,fun k hk=>setRow_other w g k cs (by omega)⟩,zI _⟩
theorem y7.one {a:AS} {v:Value} (h:y7 I M a v) (hj:a≠.junk) (hu:v≠undef) (ht: ∀ u,a= .val u->u.oneCell'=true):v.oneCell'=true:=by
 cases a with
 | int=>rw [h.1];rfl
 | bool=>rw [show _=_ from h];rfl
 | val u=>rw [h.1];exact ht u rfl
 | sl=>obtain ⟨a,cap,e,_⟩:=h;rw [(List.cons.inj e).1];rfl
 | mp=>obtain ⟨r,e,_⟩:=h;rw [(List.cons.inj e).1];rfl
 | pt _ o=>cases o with
   | none=>rw [(List.cons.inj (show _=_ from h)).1];rfl
   | some z=>obtain ⟨_,_,_,e,_⟩:=h;rw [(List.cons.inj e).1];rfl
 | ip=>obtain ⟨_,_,_,rfl,_⟩:=h;rfl
 | ipi=>obtain ⟨_,_,_,rfl,_⟩:=h;rfl
 | own id s n =>
   simp only [y7] at h;split at h
   ·exact h.elim
   ·obtain ⟨⟨_,rfl⟩,_⟩:=h;rfl
   ·obtain ⟨_,_,rfl,_⟩:=h;rfl
 | ptr=>obtain ⟨_,_,rfl,_⟩:=h;rfl
 | pti=>obtain ⟨_,_,rfl,_⟩:=h;rfl
 | omp=>obtain ⟨_,_,rfl,_⟩:=h;rfl
 | arr=>obtain ⟨_,_,rfl,_⟩:=h;rfl
 | clo=>obtain ⟨_,rfl,_⟩:=h;rfl
 | nq=>obtain ⟨_,rfl,_⟩:=h;rfl
 | emp=>obtain ⟨_,rfl⟩:=h;rfl
 | junk=>exact (hj rfl).elim
theorem zBv {c ds:List Value} {off k:Nat} (h:off+ds.length<=c.length) :
 (c.take off++ds++c.drop (off+ds.length))[k]? =if k<off then c[k]? else if k<off+ds.length then ds[k - off]? else c[k]? :=by
 simp only [List.getElem?_append,yS,jU,z7,zAN]
 by_cases h1:k<off
 ·rw [if_pos (by omega),if_pos (by omega),if_pos h1,if_pos h1]
 ·by_cases h2:k<off+ds.length
  ·rw [if_pos (by omega),if_neg (by omega),if_neg h1,if_pos h2];congr 1;omega
  ·rw [if_neg (by omega),if_neg h1,if_neg h2];congr 1;omega
theorem zIu: ∀ {m:List AS} {ds:List Value},m.all AS.storable=true->jZ (y7 I M) m ds->∀ u∈ds,u.oneCell'=true
 | [],[],_,_=>by simp
 | a ::m,d::ds,h,hr=>by
   simp only [qS,zA] at h;intro u hu;rcases zP.1 hu with rfl|hu
   ·have h1:=hr.1;cases a with
    | int=>rw [h1.1];rfl
    | bool=>rw [show _=_ from h1];rfl
    | val v =>
      obtain ⟨rfl,hs⟩:=h1;cases u<;>first|rfl|exact (hs _ rfl).elim|(simp [AS.storable] at h)
    | sl=>obtain ⟨a,cap,e,_⟩:=h1;rw [(List.cons.inj e).1];rfl
    | mp=>obtain ⟨r,e,_⟩:=h1;rw [(List.cons.inj e).1];rfl
    | pt _ o=>cases o with
      | none=>rw [(List.cons.inj (show _=_ from h1)).1];rfl
      | some z=>obtain ⟨_,_,_,e,_⟩:=h1;rw [(List.cons.inj e).1];rfl
    | ip=>obtain ⟨_,_,_,rfl,_⟩:=h1;rfl
    | ipi=>obtain ⟨_,_,_,rfl,_⟩:=h1;rfl
    | own id s n =>
      simp only [y7] at h1;split at h1
      ·exact h1.elim
      ·obtain ⟨⟨_,rfl⟩,_⟩:=h1;rfl
      ·obtain ⟨_,_,rfl,_⟩:=h1;rfl
    | ptr=>obtain ⟨_,_,rfl,_⟩:=h1;rfl
    | pti=>obtain ⟨_,_,rfl,_⟩:=h1;rfl
    | omp=>obtain ⟨_,_,rfl,_⟩:=h1;rfl
    | arr=>obtain ⟨_,_,rfl,_⟩:=h1;rfl
    | clo=>obtain ⟨_,rfl,_⟩:=h1;rfl
    | nq=>obtain ⟨_,rfl,_⟩:=h1;rfl
    | emp=>obtain ⟨_,rfl⟩:=h1;rfl
    | junk=>simp [AS.storable] at h
   ·exact zIu h.2 hr.2 u hu
 | [],_::_,_,hr=>hr.elim
 | _::_,[],_,hr=>hr.elim
theorem zDR (hT:zAZ P T) {t:TypeId} {x v:Operand} (ho:o.op= .store t x v) {b off:Nat} {c:Array Value} {u:TypeId} (hb:w.heap[b]? =some (.cells c u (0,0)))
 (hx:ρ x= .pointer (some ⟨b,off,none⟩)) {ds:List Value} (hv:(ρ v).cells.toList=ds) (hs:ds.length=T.sizeOf t) (hpos:T.sizeOf t≠0) (hle:off+ds.length<=c.size) (h1: ∀ u∈ds,u.oneCell'=true) :
 (execOp ρ o).run P w= .ok .skip (w.setRow b (c.toList.take off++ds++c.toList.drop (off+ds.length)).toArray):=by
 have hst:=run_storeCells_at P b off u ds 0 c w hb (by simpa using hle) h1;simp only [zBX] at hst;have hsz:(ρ v).cells.size=T.sizeOf t:=by rw [<- hs,<- hv];simp
 simp [execOp,ho,Instr.storeAt,Instr.sureAddr,hx,storeVar,zDF (w:=w) hT hpos,hsz,hv,hst]
theorem zB3 {g:Nat} {old:Array Value} {u:TypeId} (cs:Array Value) (h:w.heap[g]? =some (.cells old u (0,0))):(w.setRow g cs).heap[g]? =some (.cells cs u (0,0)) :=
 setRow_heap w g old cs u (0,0) h
theorem zGk {e:ETy} {u:TypeId} {xs:List e.T} {id i:Nat} {p:Bk} (h:zAt I M w id (.row e u xs)) (hp:M[id]? =some (some p)) (hi:i<p.L) {y:e.T} {ds:List Value} (hy:jI I e y ds)
 {c:Array Value} (hc:w.heap[p.b]? =some (.cells c u (0,0))) :
 p.o+i*p.sz+ds.length<=c.size/\zAt I M (w.setRow p.b (c.toList.take (p.o+i*p.sz)++ds++c.toList.drop (p.o+i*p.sz+ds.length)).toArray) id (.row e u (xs.set i y)):=by
 obtain ⟨h0,h⟩:=h;simp only [hp] at h;obtain ⟨q1,q2,q3,c',q4,q5,q6⟩:=h;rw [hc] at q4;cases q4;have hl:=hy.length;have hin:i*p.sz+p.sz<=p.L*p.sz:=by rw [<- Nat.succ_mul];exact yD _ hi
 have hle:p.o+i*p.sz+ds.length<=c.size:=by omega
 refine ⟨hle,by simpa using h0,?_⟩;simp only [hp];refine ⟨q1,by simpa using q2,q3,_,zB3 _ hc,?_,fun i' x hx=> ?_⟩
 ·simp;omega
 ·have hle':p.o+i*p.sz+ds.length<=c.toList.length:=by simpa using hle
  simp only [List.getElem?_toArray,zBv hle'];rw [qI] at hx
  by_cases hii:i=i'
  ·subst hii;simp only [if_true] at hx;split at hx
   ·cases hx;refine ⟨ds,hy,fun j v hj=> ?_⟩;have:=(zG.1 hj).1;rw [if_neg (by omega),if_pos (by omega),Nat.add_sub_cancel_left];exact hj
   ·cases hx
  ·rw [if_neg hii] at hx;obtain ⟨d,h1,h2⟩:=q6 i' x hx;refine ⟨d,h1,fun j v hj=> ?_⟩;have hj':=(zG.1 hj).1;have hdl:=h1.length
   have: ¬ (p.o+i*p.sz<=p.o+i'*p.sz+j/\p.o+i'*p.sz+j<p.o+i*p.sz+ds.length):=by
    rcases Nat.lt_or_gt_of_ne hii with hlt|hgt
    ·have:=yD p.sz (show i+1<=i' from hlt);rw [Nat.succ_mul] at this;omega
    ·have:=yD p.sz (show i'+1<=i from hgt);rw [Nat.succ_mul] at this;omega
   have h3:=h2 j v hj;rw [<- zJ] at h3;split
   ·exact h3
   ·split
    ·omega
    ·exact h3
theorem zT8 {d1 d2:List Value} {k:Nat} {v:Value} (h:k<d1.length):(d1++d2).set k v=d1.set k v++d2:=by
 rw [List.set_append,if_pos h]
theorem zRi {d1 d2:List Value} {k:Nat} {v:Value} (h: ¬ k<d1.length):(d1++d2).set k v=d1++d2.set (k - d1.length) v:=by
 rw [List.set_append,if_neg h]
theorem zU9 {a b:ETy} {x:(ETy.pair a b).T} {y:(ETy.pair a b).T} {k:Nat} {v:AS} (h:(ETy.pair a b).setc x k v=some y):(k<a.size/\∃ z,a.setc x.1 k v=some z/\y=(z,x.2))\/(¬ k<a.size/\∃ z,b.setc x.2 (k - a.size) v=some z/\y=(x.1,z)):=by
 have e:(ETy.pair a b).setc x k v=(match Nat.blt k a.size with
  | true=>match a.setc x.1 k v with
    | some y=>some (y,x.2)
    | none=>none
  | false=>match b.setc x.2 (k - a.size) v with
    | some y=>some (x.1,y)
    | none=>none):=by
  cases v<;>rfl
 rw [e] at h;cases hb:Nat.blt k a.size with
 | true =>
   rw [hb] at h;have hk:k<a.size:=zU hb;cases hz:a.setc x.1 k v with
   | none=>rw [hz] at h;cases h
   | some z=>rw [hz] at h;cases h;exact .inl ⟨hk,z,rfl,rfl⟩
 | false =>
   rw [hb] at h
   have hk: ¬ k<a.size:=fun q=>by
    have:Nat.blt k a.size=true:=Nat.ble_eq_true_of_le q;rw [hb] at this;cases this
   cases hz:b.setc x.2 (k - a.size) v with
   | none=>rw [hz] at h;cases h
   | some z=>rw [hz] at h;cases h;exact .inr ⟨hk,z,rfl,rfl⟩
theorem zJl {e:ETy} {x y:e.T} {k:Nat} {a:AS} (h:e.setc x k a=some y) (hk:k<e.size) {d:List Value} (hd:jI I e x d) {v:Value} (hv:y7 I M a v):jI I e y (d.set k v):=by
 induction e generalizing k d with
 | pair p q ih1 ih2 =>
   obtain ⟨d1,d2,rfl,h1,h2⟩:=hd;have l1:=h1.length;rcases zU9 h with ⟨c,z,hz,rfl⟩|⟨c,z,hz,rfl⟩
   ·rw [zT8 (by omega)];exact ⟨_,_,rfl,ih1 hz c h1,h2⟩
   ·rw [zRi (by omega),l1];have hk':k<p.size+q.size:=hk;exact ⟨_,_,rfl,h1,ih2 hz (by omega) h2⟩
 | arr3 =>
   cases a with
   | int q n =>
     cases q with
     | i64 =>
       cases h;obtain ⟨rfl,h1,h2,h3⟩:=hd;obtain ⟨rfl,hn⟩:=hv;have:k=0\/k=1\/k=2:=by simp [ETy.size] at hk;omega
       rcases this with rfl|rfl|rfl<;>exact ⟨rfl,by simpa,by simpa,by simpa⟩
     | _=>cases h
   | _=>cases h
 | arr2 =>
   cases a with
   | int q n =>
     cases q with
     | i64 =>
       cases h;obtain ⟨rfl,h1,h2⟩:=hd;obtain ⟨rfl,hn⟩:=hv;have:k=0\/k=1:=by simp [ETy.size] at hk;omega
       rcases this with rfl|rfl<;>exact ⟨rfl,by simpa,by simpa⟩
     | _=>cases h
   | _=>cases h
 | int q =>
   cases a with
   | int q' n =>
     have h':(if q=q' then some n else none)=some y:=h
     by_cases c:q=q'
     ·subst c;rw [if_pos rfl] at h';cases h';obtain ⟨rfl,h1⟩:=hd;obtain ⟨rfl,hn⟩:=hv;have:k=0:=by simp [ETy.size] at hk;omega
      subst this;exact ⟨rfl,hn⟩
     ·rw [if_neg c] at h';cases h'
   | _=>cases h
 | _=>cases a<;>cases h
theorem zG9 {c d:List Value} {off k:Nat} {v:Value} (hd: ∀ (j:Nat) (u:Value),d[j]? =some u->c[off+j]? =some u) (hk:k<d.length) (hle:off+d.length<=c.length) :
 c.take (off+k)++[v]++c.drop (off+k+1)=c.take off++d.set k v++c.drop (off+(d.set k v).length):=by
 have h1:off+k+([v]:List Value).length<=c.length:=by simp;omega
 have h2:off+(d.set k v).length<=c.length:=by simpa using hle
 apply List.ext_getElem?;intro i;have e1:=zBv (k:=i) h1;have e2:=zBv (k:=i) h2;simp only [List.length_singleton] at e1;rw [e1,e2];simp only [qZ]
 by_cases a1:i<off
 ·rw [if_pos (by omega),if_pos a1]
 ·rw [if_neg a1]
  by_cases a2:i<off+d.length
  ·rw [if_pos a2,qI];obtain ⟨u,hu⟩:=zBw (l:=d) (i:=i - off) (by omega);have:=hd _ _ hu;rw [show off+(i - off)=i by omega] at this
   by_cases a3:k=i - off
   ·rw [if_neg (by omega),if_pos (by omega),if_pos a3,if_pos (by omega)];rw [show i - (off+k)=0 by omega];rfl
   ·rw [if_neg a3]
    by_cases a4:i<off+k
    ·rw [if_pos a4,this,hu]
    ·rw [if_neg a4,if_neg (by omega),this,hu]
  ·rw [if_neg (by omega),if_neg (by omega),if_neg a2]
theorem zQH {u:TypeId} {cs cs':List AS} {id:Nat} {p:Bk} (h:zAt I M w id (.flat u cs)) (hp:M[id]? =some (some p)) {c':Array Value} (hl:cs'.length=cs.length) (hc:jZ (y7 I M) cs' c'.toList) :
 zAt I M (w.setRow p.b c') id (.flat u cs'):=by
 obtain ⟨p2,h1,h2,h3,h4,h5,c,h6,h7⟩:=h;rw [hp] at h1;cases h1;exact ⟨p,hp,h2,by rw [hl];exact h3,h4,by rw [hl];exact h5,c',zB3 _ h6,hc⟩
theorem zGn {k:Nat} {n:Int} (hn:InK .i64 n): ∀ {l:List AS} {ns:List Int} {ds:List Value} {j:Nat},zC3 l=some ns->jZ (y7 I M) l ds->
 (zFJ k n j ns).length=l.length/\jZ (y7 I M) (zFJ k n j ns) (if j<=k then ds.set (k - j) (.int .i64 n) else ds)
 | [],ns,ds,j,h,hr=>by cases h;obtain rfl:=hr.len_nil;simp [zFJ,jZ]
 | .int .i64 m::r,ns,d::ds,j,h,hr=>by
   simp only [zC3] at h;split at h
   ·rename_i l' hl';cases h;obtain ⟨h1,h2⟩:=zGn (k:=k) hn (j:=j+1) hl' hr.2;refine ⟨by simp [zFJ,h1],?_⟩;simp only [zFJ]
    by_cases hjk:k=j
    ·subst hjk;rw [if_neg (by omega)] at h2;rw [if_pos (zI _),Nat.sub_self,if_pos rfl];exact ⟨⟨rfl,hn⟩,h2⟩
    ·by_cases hle:j<=k
     ·rw [if_pos (by omega)] at h2;rw [if_pos hle,show k - j=(k - (j+1))+1 by omega];exact ⟨by rw [if_neg hjk];exact hr.1,h2⟩
     ·rw [if_neg (by omega)] at h2;rw [if_neg hle];exact ⟨by rw [if_neg hjk];exact hr.1,h2⟩
   ·contradiction
 | .int .i64 _::_,_,[],_,_,hr=>hr.elim
theorem zFj (hT:zAZ P T) (h:GG B I M st tmps w) (hd:zBM o.dst tmps) {t:TypeId} {x y:Operand} (ho:o.op= .store t x y) {a b:AV} (ha:qA I M a (ρ x)) (hb:qA I M b (ρ y))
 {p q:Option Prop} {st':St} (he:zCB T t a b st o.dst=some (p,q,st')):Opt p/\(Opt q->zWT P B M o ρ st' tmps w):=by
 -- what is left once the new thing is known
 have fin: ∀ {id:Nat} {ob ob':Ob} {pl:Bk} {c':Array Value},hget st.hp id=some ob->M[id]? =some (some pl)->(execOp ρ o).run P w= .ok .skip (w.setRow pl.b c')->zAt I M (w.setRow pl.b c') id ob'->
  zWT P B M o ρ (({st with hp:=zBZ st.hp id ob'} :St).put o.dst .undef) tmps w:=by
  intro id ob ob' pl c' hid hpl hrun hob;have hsep:=h.sep _ _ _ hid hpl;exact ⟨undef,_,I,.inr ⟨hrun,rfl⟩,(h.turn hid hpl (fun k hk=>setRow_other w pl.b k c' hk) (Below.setRow w _ _ hsep.2.1) hob).put hd qA.undef⟩
 unfold zCB at he;split at he
 ·rename_i id i k m hm;obtain ⟨pl,hpl,hx,hi⟩:=ha;have hfl:=zBW hb hm;have hml:=hfl.length;split at he
  ·rename_i e u xs hlen hst hid;rw [zA,y8] at hlen;have hz:T.sizeOf t≠0:=by intro e;rw [e] at hlen;cases hlen.2
   have hlen:=zC hlen.1;have hob:=h.mem.ob _ _ hid;have hob':=hob.2;simp only [hpl] at hob';obtain ⟨q1,q2,q3,c,q4,q5,q6⟩:=hob';have hone:=zIu hst hfl;split at he
   ·rename_i hk he2;obtain rfl:=zC hk;have he2:=zC he2;split at he
    ·rename_i yv hdec;cases he;refine ⟨trivial,fun _=> ?_⟩;have hy:=ETy.dec_sound hdec hfl;obtain ⟨r1,r2⟩:=zGk hob hpl hi hy q4;exact fin hid hpl (zDR hT ho q4 hx rfl (by rw [<- hml];exact hlen) hz (by simpa using r1) hone) (by simpa using r2)
    ·cases he
   ·split at he
    ·rename_i a1 _ _;split at he
     ·rename_i yv hkb zBZ;cases he;refine ⟨trivial,fun _=> ?_⟩;have hk:k+1<=e.size:=by simpa [Nat.blt] using hkb
      obtain ⟨v1,hv1,hv2⟩:=hfl.len_one;obtain ⟨x1,hx1⟩:=zBw (l:=xs) (q2▸hi);obtain ⟨d,hd1,hd2⟩:=q6 _ _ hx1;rw [zDy hx1] at zBZ;have hy:=zJl zBZ hk hd1 hv2;have hdl:=hd1.length;obtain ⟨r1,r2⟩:=zGk hob hpl hi hy q4;have hspl:=zG9 (c:=c.toList) (d:=d) (off:=pl.o+i*pl.sz) (k:=k) (v:=v1) (fun j u hj=>by rw [zJ];exact hd2 j u hj) (by omega) (by simp at r1 ⊢;omega);rw [<- hspl] at r2;have hs1:(1:Nat)=T.sizeOf t:=by simpa using hlen
      refine fin hid hpl (zDR hT ho q4 hx hv1 (by simpa using hs1) (by omega) (by simp at r1 ⊢;omega) (by rw [<- hv1];exact hone)) r2
     ·cases he
    ·cases he
  ·rename_i u cs hlen hst hid;rw [zA,y8] at hlen;have hz:T.sizeOf t≠0:=by intro e;rw [e] at hlen;cases hlen.2
   have hlen:=zC hlen.1;have hob:=h.mem.ob _ _ hid;obtain ⟨p2,g1,g2,g3,g4,g5,c,g6,g7⟩:=hob;rw [hpl] at g1;cases g1;have hone:=zIu hst hfl;split at he
   ·rename_i hle;cases he;refine ⟨trivial,fun _=> ?_⟩;have hle:=zU hle;have hcl:=g7.length;simp only [g2,Nat.zero_mul,yK] at hx;refine fin hid hpl (zDR hT ho g6 hx rfl (by rw [<- hml];exact hlen) hz (by rw [<- hml];simp at hcl;omega) hone) (zQH (h.mem.ob _ _ hid) hpl ?_ ?_)
    ·unfold zAk;simp;omega
    ·unfold zAk;rw [hml];exact ((g7.take _).append hfl).append (g7.drop _)
   ·cases he
  ·cases he
 ·rename_i id i j a1 hm;obtain ⟨pl,hpl,hx,hi,hj⟩:=ha;have hfl:=zBW hb hm;obtain ⟨v1,hv1,hv2⟩:=hfl.len_one;split at he
  ·rename_i e u xs hs1 hst hid;have hs1:=zC hs1;have hob:=h.mem.ob _ _ hid;have hob':=hob.2;simp only [hpl] at hob';obtain ⟨q1,q2,q3,c,q4,q5,q6⟩:=hob';have hone:=zIu (m:=[a1]) (by simpa using hst) hfl;split at he
   ·rename_i yv zBZ;cases he;refine ⟨trivial,fun _=> ?_⟩;obtain ⟨x1,hx1⟩:=zBw (l:=xs) (q2▸hi);obtain ⟨d,hd1,hd2⟩:=q6 _ _ hx1;rw [zDy hx1] at zBZ;have hy:=zJl zBZ (by omega) hd1 hv2;have hdl:=hd1.length;obtain ⟨r1,r2⟩:=zGk hob hpl hi hy q4;have hspl:=zG9 (c:=c.toList) (d:=d) (off:=pl.o+i*pl.sz) (k:=j) (v:=v1) (fun j u hj=>by rw [zJ];exact hd2 j u hj) (by omega) (by simp at r1 ⊢;omega);rw [<- hspl] at r2
    refine fin hid hpl (zDR hT ho q4 hx hv1 (by simpa using hs1) (by omega) (by simp at r1 ⊢;omega) (by rw [<- hv1];exact hone)) r2
   ·cases he
  ·rename_i u cs hs1 hst hid;have hs1:=zC hs1;obtain ⟨p2,g1,g2,g3,g4,g5,c,g6,g7⟩:=h.mem.ob _ _ hid;rw [hpl] at g1;cases g1;have hone:=zIu (m:=[a1]) (by simpa using hst) hfl;split at he
   ·rename_i cs' hfs;cases he;refine ⟨trivial,fun _=> ?_⟩;unfold zM5 at hfs;split at hfs
    ·rename_i n ns hns;cases hfs;obtain ⟨rfl,hn⟩:=hv2;obtain ⟨s1,s2⟩:=zGn (k:=j) hn (j:=0) hns g7;rw [if_pos (jB _),Nat.sub_zero] at s2;have hcl:=g7.length;simp only [g2,Nat.zero_mul,yK] at hx;refine fin hid hpl (zDR hT ho g6 hx hv1 (by simpa using hs1) (by omega) (by simp at hcl ⊢;omega) (by rw [<- hv1];exact hone)) (zQH (h.mem.ob _ _ hid) hpl s1 ?_);have:=zG9 (c:=c.toList) (d:=c.toList) (off:=0) (k:=j) (v:= .int .i64 n) (fun _ _ hh=>by simpa using hh) (by omega) (by simp)
     simp only [List.take_zero,zBQ,yK,qZ,List.drop_length,yW] at this;simp only [List.length_singleton];rw [this];exact s2
    ·cases hfs
   ·cases he
  ·cases he
 ·cases he
def zGx (T:Tab):Prop:= ∀ t ti,zEt T.ty t=some ti->∀ e,ti.ety=some e->ti.zl=e.zeroVals/\ti.size=e.size
theorem zMY (hT:zAZ P T) (h:GG B I M st tmps w) (hd:zBM o.dst tmps) {t:TypeId} {x y:Operand} (ho:o.op= .store t x y) {a b:AV} (ha:qA I M a (ρ x)) (hb:qA I M b (ρ y))
 {p q:Option Prop} {st':St} (he:zCB T t a b st o.dst=some (p,q,st')):Opt p/\(Opt q->zJJ P B o ρ st' tmps w) :=
 let ⟨h1,h2⟩:=zFj hT h hd ho ha hb he;⟨h1,fun hq=>(h2 hq).done⟩
theorem zCC: ∀ e:ETy,jI I e e.dflt e.zeroVals
 | .int k=>⟨rfl,by cases k<;>rfl⟩
 | .bool=>rfl
 | .arr2=>⟨rfl,rfl,rfl⟩
 | .arr3=>⟨rfl,rfl,rfl,rfl⟩
 | .pair a b=>⟨_,_,rfl,zCC a,zCC b⟩
 | .sl _=>⟨none,0,rfl,by simp [ETy.dflt],by simp [ETy.dflt],fun h=>(h rfl).elim⟩
 | .mp _ _=>⟨none,rfl,by simp [ETy.dflt],fun _=>rfl,fun _ h=>by cases h⟩
 | .pt _=>rfl
 | .unit=>rfl
 | .fnc=>rfl
def RowsIn (I:Sig) (e:ETy) (xs:List e.T) (c:List Value) (o:Nat):Prop :=
 ∀ (i:Nat) (x:e.T),xs[i]? =some x->∃ d,jI I e x d/\∀ (j:Nat) (u:Value),d[j]? =some u->c[o+i*e.size+j]? =some u
theorem zOV {e:ETy} {xs:List e.T} {c ds:List Value} {o i:Nat} {y:e.T} (h:RowsIn I e xs c o) (hi:i<xs.length) (hle:o+xs.length*e.size<=c.length) (hy:jI I e y ds) :
 RowsIn I e (xs.set i y) (c.take (o+i*e.size)++ds++c.drop (o+i*e.size+ds.length)) o:=by
 have hl:=hy.length;have hin:i*e.size+e.size<=xs.length*e.size:=by rw [<- Nat.succ_mul];exact yD _ hi
 have hle':o+i*e.size+ds.length<=c.length:=by omega
 intro i' x hx;rw [qI] at hx;simp only [zBv hle']
 by_cases hii:i=i'
 ·subst hii;rw [if_pos rfl,if_pos hi] at hx;cases hx;refine ⟨ds,hy,fun j v hj=> ?_⟩;have:=(zG.1 hj).1;rw [if_neg (by omega),if_pos (by omega),Nat.add_sub_cancel_left];exact hj
 ·rw [if_neg hii] at hx;obtain ⟨d,h1,h2⟩:=h i' x hx;refine ⟨d,h1,fun j v hj=> ?_⟩;have hj':=(zG.1 hj).1;have hdl:=h1.length
  have: ¬ (o+i*e.size<=o+i'*e.size+j/\o+i'*e.size+j<o+i*e.size+ds.length):=by
   rcases Nat.lt_or_gt_of_ne hii with hlt|hgt
   ·have:=yD e.size (show i+1<=i' from hlt);rw [Nat.succ_mul] at this;omega
   ·have:=yD e.size (show i'+1<=i from hgt);rw [Nat.succ_mul] at this;omega
  have h3:=h2 j v hj;split
  ·exact h3
  ·split
   ·omega
   ·exact h3
theorem zIU {e:ETy} {zl:List Value} (hz:zl=e.zeroVals) (n:Nat):RowsIn I e (List.replicate n e.dflt) ((Array.range (n*e.size)).map (fun k=>zl.toArray[k % zl.toArray.size]!)).toList 0:=by
 intro i x hx;have hi:=(zG.1 hx).1;simp only [jH] at hi;rw [yU,if_pos hi] at hx;cases hx;have hr:=zCC (I:=I) e;have hl:=hr.length;refine ⟨_,hr,fun j u hj=> ?_⟩;have hj':=(zG.1 hj).1
 have hlt:i*e.size+j<n*e.size:=by
  have:=yD e.size (show i+1<=n from hi);rw [Nat.succ_mul] at this;omega
 simp only [yK,zJ,Array.getElem?_map,Array.getElem?_range];rw [if_pos hlt];simp only [Option.map_some,zAV];have hsz:zl.toArray.size=e.size:=by rw [hz];simpa using hl
 rw [hsz,show (i*e.size+j) % e.size=j by rw [Nat.mul_comm,Nat.mul_add_mod];exact Nat.mod_eq_of_lt (by omega)];have:zl.toArray[j]? =some u:=by rw [hz];simpa using hj
 rw [getElem!_def,this]
theorem zMu {e:ETy} : ∀ {ps:List (Nat×AV)} {vs:List (Nat×Value)} {xs ys:List e.T} {c:List Value},zEg e xs ps=some ys->
 jZ (fun (p:Nat×AV) (q:Nat×Value)=>p.1=q.1/\qA I M p.2 q.2) ps vs->RowsIn I e xs c 0->xs.length*e.size=c.length->
 ∃ c',Instr.fill (fun i=>some (i*e.size,e.size)) c.toArray vs=some c'.toArray/\RowsIn I e ys c' 0/\c'.length=c.length/\ys.length=xs.length
 | [],[],xs,ys,c,h,_,hr,hl=>by cases h;exact ⟨c,rfl,hr,rfl,rfl⟩
 | (i, v)::ps,(j,u)::vs,xs,ys,c,h,hv,hr,hl=>by
   obtain ⟨⟨rfl,hu⟩,hv⟩:=hv;simp only [zEg] at h;split at h
   ·rename_i m hm;split at h
    ·rename_i x hx hb;have hb:i+1<=xs.length:=by simpa [Nat.blt] using hb
     have hf:=zBW hu hm;have hd:=ETy.dec_sound hx hf;have hdl:=hd.length;have hin:i*e.size+e.size<=xs.length*e.size:=by rw [<- Nat.succ_mul];exact yD _ hb
     have hr':=zOV hr hb (by omega) hd;simp only [yK] at hr'
     have hlen:(c.take (i*e.size)++u.cells.toList++c.drop (i*e.size+u.cells.toList.length)).length=c.length:=by
      simp;simp at hdl;omega
     obtain ⟨c',h1,h2,h3,h4⟩:=zMu h hv hr' (by rw [hlen];simpa using hl);refine ⟨c',?_,h2,by omega,by simpa using h4⟩;simp only [Instr.fill];rw [if_neg (by simp at hdl;simp [hdl];omega)];rw [<- h1]
     congr 1
     apply Array.ext';have:=foldl_set (i*e.size) u.cells.toList 0 c (by simp at hdl ⊢;omega)
     rw [show (u.cells.zipIdx.foldl (fun cs x=>cs.setIfInBounds (i*e.size+x.2) x.1) c.toArray)=((u.cells.toList.zipIdx 0).foldl (fun (cs:Array Value) (p:Value×Nat)=>cs.setIfInBounds (i*e.size+p.2) p.1) c.toArray) by
      rw [<- Array.foldl_toList];simp]
     rw [this];simp
    ·cases h
   ·cases h
 | [],_::_,_,_,_,_,h,_,_=>h.elim
 | _::_,[],_,_,_,_,h,_,_=>h.elim
theorem zMR (h:GG B I M st tmps w) (hd:zBM o.dst tmps) {e:ETy} {u:TypeId} {xs:List e.T} {n cap:Nat} {c:Array Value} (hn:n=xs.length) (hcap:n<=cap) (hb:xs.length<=140737488355328)
 (hc:RowsIn I e xs c.toList 0) (hs:c.size=cap*e.size)
 (hrun:(execOp ρ o).run P w= .ok (.value (.slice (some ⟨w.heap.size,0,none⟩) n cap)) (w.alloc (.cells c u))):zJJ P B o ρ (zF8 st o.dst e u xs n) tmps w:=by
 subst hn;have hl:(M++[some ⟨w.heap.size,0,e.size,cap*e.size,xs.length⟩])[st.next]? =some (some ⟨w.heap.size,0,e.size,cap*e.size,xs.length⟩):=by rw [<- h.len];simp
 refine ⟨_,_,I,_,.inl hrun,h.fresh (q:=some ⟨w.heap.size,0,e.size,cap*e.size,xs.length⟩) hd (alloc_old w _) (Below.alloc' w _ h.bel.size) (by rintro p ⟨⟩;rfl) ?_ ?_⟩
 ·refine ⟨hb,?_⟩;simp only [hl];refine ⟨by trivial,by trivial,by rw [yK];exact yD _ hcap,c,Go.heap_alloc_new w _,hs,fun i x hx=> ?_⟩;obtain ⟨d,h1,h2⟩:=hc i x hx;exact ⟨d,h1,fun j v hj=>by rw [<- zJ];exact h2 j v hj⟩
 ·show y7 I _ (.own st.next 0 xs.length) _;simp only [y7,hl];exact ⟨_,cap,rfl,hcap,.inr (by simp),by simp,by simp⟩
theorem zQh (h:GG B I M st tmps w) (hd:zBM o.dst tmps) {e:ETy} {u:TypeId} {n cap:Nat} {c:Array Value} (hcap:n<=cap) (hb:n<=140737488355328)
 (hc: ∀ v∈c.toList,v= .slice none 0 0) (hs:c.size=cap)
 (hrun:(execOp ρ o).run P w= .ok (.value (.slice (some ⟨w.heap.size,0,none⟩) n cap)) (w.alloc (.cells c u))):zJJ P B o ρ (zMA st o.dst e u (List.replicate n []) n) tmps w:=by
 have hl:(M++[some ⟨w.heap.size,0,1,cap,n⟩])[st.next]? =some (some ⟨w.heap.size,0,1,cap,n⟩):=by rw [<- h.len];simp
 refine ⟨_,_,I,_,.inl hrun,h.fresh (q:=some ⟨w.heap.size,0,1,cap,n⟩) hd (alloc_old w _) (Below.alloc' w _ h.bel.size) (by rintro p ⟨⟩;rfl) ?_ ?_⟩
 ·refine ⟨by simpa using hb,_,hl,rfl,by simp,by simpa using hcap,c,Go.heap_alloc_new w _,hs,fun i x hx=> ?_,fun v hv=> .inl (hc v ?_),?_⟩
  ·have hi:=(zG.1 hx).1;simp only [jH] at hi;rw [yU,if_pos hi] at hx;cases hx;have hlt:i<c.size:=by omega
   refine ⟨.slice none 0 0,⟨none,0,rfl,by simp,by simp,fun h=>(h rfl).elim⟩,?_⟩;rw [yK,<- zJ,zB (by simpa using hlt),hc _ (y6 _)]
  ·exact zAE (zAd hv)
  ·refine List.Pairwise.imp_of_mem (R:=fun _ _=>True) ?_ (List.pairwise_of_forall fun _ _=>trivial);intro v v' hv _ _ b o' n' c' b2 o2 n2 c2 e1;rw [hc v (zAE (zAd hv))] at e1;cases e1
 ·show y7 I _ (.own st.next 0 n) _;simp only [y7,hl];exact ⟨_,cap,rfl,hcap,.inr (by simp),by simp,by simp⟩
theorem zDC (hT:zAZ P T) (hE:zGx T) {t u:TypeId} {n:Nat} {vs:Array (Nat×Value)} {ps:List (Nat×AV)} (hv:jZ (fun (p:Nat×AV) (q:Nat×Value)=>p.1=q.1/\qA I M p.2 q.2) ps vs.toList)
 {ui:TI} {e:ETy} {xs:List e.T} (hdc:T.desc t= .slice u) (hui:T.info u=some ui) (hety:ui.ety=some e) (hdec:zEg e (List.replicate n e.dflt) ps=some xs) (hble:Nat.ble (n*ui.size) 16777216=true) (hsz:Nat.beq ui.size 0=false) :
 ∃ c:Array Value,(Instr.buildSlice t n vs).run P w= .ok (.slice (some ⟨w.heap.size,0,none⟩) n n) (w.alloc (.cells c u))/\RowsIn I e xs c.toList 0/\c.size=n*e.size/\xs.length=n/\n<=16777216:=by
 obtain ⟨hz,hs⟩:=hE _ _ hui _ hety;have hble:=zU hble;have hsz':ui.size≠0:=by intro e;rw [e] at hsz;cases hsz
 obtain ⟨i,z,hi,hsi,hb,hzz,hzl⟩:=(hT _ _ hui).get;obtain ⟨c',h1,h2,h3,h4⟩:=zMu hdec hv (zIU (I:=I) hz n) (by simp);simp only [jH,zFZ,Array.size_map,Array.size_range] at h3 h4;have hnn:n<=16777216:=qT (Nat.le_mul_of_pos_right n (by omega)) hble;have hzs:z.cells=ui.zl.toArray:=by rw [<- hzl]
 refine ⟨c'.toArray,?_,by simpa using h2,by simpa using h3,h4,hnn⟩;unfold Instr.buildSlice;rw [zN,hT.desc hdc (by simp),zL];have hle: ¬ (n*i.size>2 ^ 24):=by rw [hsi];omega
 simp only [zN,(hT _ _ hui).run_sizeOf,zL];rw [hsi] at hle;rw [if_neg hle];rw [<- hs] at h1
 by_cases h0:n*ui.size=0
 ·rw [if_pos h0]
  have h1':Instr.fill (fun i=>some (i*ui.size,ui.size)) ((Array.range (n*ui.size)).map (fun k=>(#[]:Array Value)[k % (#[]:Array Value).size]!)) vs.toList=some c'.toArray:=by
   rw [<- h1,h0,show Array.range 0= #[] from rfl];simp
  simp only [qD,zL,h1',zN,newRow,run_newObj];rfl
 ·rw [if_neg h0];have hzr:(zeroValue u).run P w= .ok z w:=by simp [zeroValue,typeInfo,hi,hzz]
  have h1':Instr.fill (fun i=>some (i*ui.size,ui.size)) ((Array.range (n*ui.size)).map (fun k=>z.cells[k % z.cells.size]!)) vs.toList=some c'.toArray:=by
   rw [<- h1,hzs]
  simp only [zN,hzr,qD,zL,h1',newRow,run_newObj];rfl
theorem zG3 (hT:zAZ P T) (hE:zGx T) (h:GG B I M st tmps w) (hd:zBM o.dst tmps) {t:TypeId} {n:Nat} {parts:Array (Nat×Operand)} (ho:o.op= .buildSlice t n parts) {ps:List (Nat×AV)}
 (hv:jZ (fun (p:Nat×AV) (q:Nat×Value)=>p.1=q.1/\qA I M p.2 q.2) ps (parts.map fun (i,x)=>(i,ρ x)).toList)
 {p q:Option Prop} {st':St} (he:zCd T t n ps st o.dst=some (p,q,st')):Opt p/\(Opt q->zJJ P B o ρ st' tmps w):=by
 unfold zCd at he;split at he
 ·rename_i u hdc;split at he
  ·rename_i ui hui;split at he
   ·rename_i e hety;split at he
    ·rename_i xs hdec hble hsz;cases he;refine ⟨trivial,fun _=> ?_⟩;obtain ⟨c,hrun,h2,h3,h4,hnn⟩:=zDC (w:=w) hT hE hv hdc hui hety hdec hble hsz;refine zMR (n:=n) (cap:=n) (c:=c) h hd h4.symm (zI _) (by omega) h2 h3 ?_;simp [execOp,ho,hrun]
    ·cases he
   ·cases he
  ·cases he
 ·cases he
theorem zKC (h:GG B I M st tmps w) {e:ETy} {u:TypeId} {xs:List e.T} {c:Array Value} (hb:xs.length<=140737488355328) (hc:RowsIn I e xs c.toList 0) :
 ∃ σ',GG B σ' M st tmps (w.alloc (.cells c u))/\y7 σ' M (.sl e xs) (.slice (some ⟨w.heap.size,0,none⟩) xs.length xs.length):=by
 have hle:I.le (fun b=>if b=w.heap.size then some (.cells c u) else I b):=by
  intro b o e;have:=h.mem.ag.lt e;show ∃ o',(if b=w.heap.size then _ else _)=some o'/\_;rw [if_neg (by omega)];exact ⟨o,e,.refl⟩
 refine ⟨fun b=>if b=w.heap.size then some (.cells c u) else I b,⟨⟨fun b o e=> ?_,fun id ob hi=> ?_⟩,fun t=>(h.env t).mono hle,h.len,fun id ob p hi hp=> ?_,h.bel.trans (Below.alloc' w _ h.bel.size),h.grew.1.trans hle,fun b hlt=> ?_⟩,?_⟩
 ·replace e:(if b=w.heap.size then some (Obj.cells c u) else I b)=some o:=e;split at e
  ·rename_i hb;subst hb;cases e;exact ⟨_,Go.heap_alloc_new w _,.refl⟩
  ·have:=h.mem.ag.lt e;rw [alloc_old w _ _ this];exact h.mem.ag _ _ e
 ·have hob:=h.mem.ob _ _ hi
  exact (hob.same (fun p hp=>alloc_old w _ _ (hob.lt hp)) fun b o e=>alloc_old w _ _ (h.mem.ag.lt e)).sig hle fun b o e=>by
   have:=h.mem.ag.lt e;show (if b=w.heap.size then _ else _)=some o;rw [if_neg (by omega)];exact e
 ·obtain ⟨s1,s2,s3⟩:=h.sep _ _ _ hi hp;have:=(h.mem.ob _ _ hi).lt hp;exact ⟨by show (if p.b=w.heap.size then _ else _)=none;rw [if_neg (by omega)];exact s1,s2,s3⟩
 ·have:=h.bel.size;show (if b=w.heap.size then _ else _)=_;rw [if_neg (by omega)];exact h.grew.2 b hlt
 ·refine ⟨_,_,rfl,hb,zI _,fun _=>⟨w.heap.size,0,rfl,fun i x hx=> ?_⟩⟩;obtain ⟨d,h1,h2⟩:=hc i x hx;exact ⟨d,h1.mono hle,c,u,(0,0),by simp,fun j v hj=>by rw [<- zJ];exact h2 j v hj⟩
theorem zHP (hT:zAZ P T) (hE:zGx T) (h:GG B I M st tmps w) (hd:zBM o.dst tmps) {t:TypeId} {l c:Operand} (ho:o.op= .makeSlice t l c) {a b:AV} (ha:qA I M a (ρ l)) (hb:qA I M b (ρ c))
 {p q:Option Prop} {st':St} (he:zDY T t a b st o.dst=some (p,q,st')):Opt p/\(Opt q->zJJ P B o ρ st' tmps w):=by
 unfold zDY at he;split at he
 ·rename_i u n cc hdc;split at he
  ·rename_i ui hui;split at he
   ·rename_i e hety;split at he
    ·rename_i hbz;cases he;refine ⟨trivial,fun ⟨h0,h1,h2⟩=> ?_⟩;obtain ⟨hz,hs⟩:=hE _ _ hui _ hety;obtain ⟨i,z,hi,hsi,hbi,hzz,hzl⟩:=(hT _ _ hui).get;obtain ⟨e1,_⟩:=ha;obtain ⟨e2,hk2⟩:=hb;have hbne:ui.bytes≠0:=by intro e;rw [e] at hbz;cases hbz
     have hcb:cc<=140737488355328:=by
      have:cc*1<=cc*(ui.bytes:Int):=Int.mul_le_mul_of_nonneg_left (by omega) (by omega);omega
     have hzs:z.cells=ui.zl.toArray:=by rw [<- hzl]
     have hrun:=run_make (P:=P) w t u i z (hT.und hdc (by simp)) hi hzz .i64 .i64 n cc h0 h1 (by rw [hbi,Int.mul_comm];omega) (by omega);have hs1:ui.size=1:=hs;refine zQh (n:=n.toNat) (cap:=cc.toNat) (c:=madeCells z.cells (cc.toNat*i.size)) h hd (by omega) (by omega) ?_ (by rw [size_madeCells,hsi,hs1,Nat.mul_one]) (by simp [execOp,ho,e1,e2,hrun]);intro v hv;rw [hzs,hz] at hv;simp only [madeCells,Array.toList_map,zS] at hv
     obtain ⟨k,_,rfl⟩:=hv;simp [ETy.zeroVals,Nat.mod_one]
    ·cases he
   ·rename_i e hno hety;split at he
    ·rename_i hbz;cases he;refine ⟨trivial,fun ⟨h0,h1,h2⟩=> ?_⟩;obtain ⟨hz,hs⟩:=hE _ _ hui _ hety;obtain ⟨i,z,hi,hsi,hbi,hzz,hzl⟩:=(hT _ _ hui).get;obtain ⟨e1,_⟩:=ha;obtain ⟨e2,hk2⟩:=hb;have hbne:ui.bytes≠0:=by intro e;rw [e] at hbz;cases hbz
     have hcb:cc<=140737488355328:=by
      have:cc*1<=cc*(ui.bytes:Int):=Int.mul_le_mul_of_nonneg_left (by omega) (by omega);omega
     have hzs:z.cells=ui.zl.toArray:=by rw [<- hzl]
     have hrun:=run_make (P:=P) w t u i z (hT.und hdc (by simp)) hi hzz .i64 .i64 n cc h0 h1 (by rw [hbi,Int.mul_comm];omega) (by omega);refine zMR (n:=n.toNat) (cap:=cc.toNat) (c:=madeCells z.cells (cc.toNat*i.size)) h hd (by simp) (by omega) (by simp;omega) ?_ (by rw [size_madeCells,hsi,hs]) (by simp [execOp,ho,e1,e2,hrun]);have hr:=zIU (I:=I) hz cc.toNat;rw [<- hs,<- hsi,<- hzs] at hr;intro i' x hx;have hi':=(zG.1 hx).1
     simp at hi'
     have hx':(List.replicate cc.toNat e.dflt)[i']? =some x:=by
      rw [yU,if_pos (by omega)] at hx ⊢;exact hx
     exact hr i' x hx'
    ·cases he
   ·cases he
  ·cases he
 ·cases he
end
end Go.Vm
namespace Go.Vm
open Go.RowKit
section
variable {P:Program} {B:Base} {w:World} {I:Sig} {M:yN} {st:St} {tmps:Array Value} {T:Tab} {o:Oper} {ρ:Operand->Value}
theorem y7.kill {id:Nat} {q:Option Bk} {a:AS} {v:Value} (h:y7 I M a v):y7 I (M.set id q) (Vm.kill id a) v:=by
 have key: ∀ {i:Nat},Nat.beq i id=false->(M.set id q)[i]? =M[i]? :=fun {i} hi=>by
  rw [qP];rintro rfl;simp [qF] at hi
 cases a with
 | own i s n =>
   simp only [Vm.kill];split
   ·trivial
   ·rename_i hi;simp only [y7,key hi];exact h
 | ptr i j k =>
   simp only [Vm.kill];split
   ·trivial
   ·rename_i hi;obtain ⟨p,h1,h2⟩:=h;exact ⟨p,by rw [key hi];exact h1,h2⟩
 | pti i j k =>
   simp only [Vm.kill];split
   ·trivial
   ·rename_i hi;obtain ⟨p,h1,h2⟩:=h;exact ⟨p,by rw [key hi];exact h1,h2⟩
 | omp i =>
   simp only [Vm.kill];split
   ·trivial
   ·rename_i hi;obtain ⟨p,h1,h2⟩:=h;exact ⟨p,by rw [key hi];exact h1,h2⟩
 | arr i n =>
   simp only [Vm.kill];split
   ·trivial
   ·rename_i hi;obtain ⟨p,h1,h2⟩:=h;exact ⟨p,by rw [key hi];exact h1,h2⟩
 | _=>exact h
theorem qA.map1 {τ:Sig} {γ:yN} {f:AS->AS} (hf: ∀ a v,y7 I M a v->y7 τ γ (f a) v) {a:AV} {v:Value} (h:qA I M a v):qA τ γ (a.map1 f) v:=by
 cases a with
 | s a=>exact hf _ _ h
 | agg l=>obtain ⟨ds,e,r⟩:=h;exact ⟨ds,e,r.map f hf⟩
 | tup l=>trivial
theorem jL.map1 {τ:Sig} {γ:yN} {f:AS->AS} (hf: ∀ a v,y7 I M a v->y7 τ γ (f a) v): ∀ {l:List AV} {m:List Value},jL I M l m->jL τ γ (l.map (AV.map1 f)) m
 | [],[],_=>trivial
 | _::_,_::_,h=>⟨qA.map1 hf h.1,jL.map1 hf h.2⟩
 | [],_::_,h=>h.elim
 | _::_,[],h=>h.elim
theorem qA.mapAS {τ:Sig} {γ:yN} {f:AS->AS} (hf: ∀ a v,y7 I M a v->y7 τ γ (f a) v) {a:AV} {v:Value} (h:qA I M a v):qA τ γ (a.mapAS f) v:=by
 cases a with
 | s a=>exact hf _ _ h
 | agg l=>obtain ⟨ds,e,r⟩:=h;exact ⟨ds,e,r.map f hf⟩
 | tup l=>obtain ⟨vs,e,r⟩:=h;exact ⟨vs,e,r.map1 hf⟩
theorem zBt (f:AS->AS) (hj:f .junk= .junk): ∀ (env:Env) (t:Nat),qQ (env.mapAS f) t=(qQ env t).mapAS f
 | [],t=>by simp [Env.mapAS,qQ,AV.mapAS,hj]
 | (k,v)::r,t=>by
   simp only [Env.mapAS,j8];split
   ·rfl
   ·exact zBt f hj r t
theorem zB5 (f:AS->AS): ∀ (hp:zAG) (i:Nat),hget (hp.mapAS f) i=(hget hp i).map (Ob.mapAS f)
 | [],i=>rfl
 | (k,v)::r,i=>by
   simp only [zAG.mapAS,yB];split
   ·rfl
   ·exact zB5 f r i
theorem zAx {l:zAG} {id i:Nat} {ob':Ob} (hx: ∃ o,hget l id=some o):hget (zBZ l id ob') i=if i=id then some ob' else hget l i:=by
 induction l with
 | nil=>obtain ⟨o,e⟩:=hx;cases e
 | cons x r ih =>
   obtain ⟨k,v⟩:=x;obtain ⟨o,e⟩:=hx;simp only [zBZ];cases hk:Nat.beq k id with
   | true =>
     have:=zC hk;subst this;simp only [yB]
     by_cases e:i=k
     ·subst e;simp
     ·rw [if_neg (Ne.symm e),if_neg (Ne.symm e),if_neg e]
   | false =>
     have hne:k≠id:=by intro e;subst e;simp [qF] at hk
     simp only [yB] at e ⊢;rw [if_neg hne] at e;rw [ih ⟨o,e⟩]
     by_cases e1:k=i
     ·subst e1;simp [hne]
     ·simp [e1]
theorem zAt.killed {w':World} {id i:Nat} {q:Option Bk} {ob:Ob} (hne:i≠id) (h:zAt I M w i ob) (hk: ∀ p,M[i]? =some (some p)->w'.heap[p.b]? =w.heap[p.b]?) (hkn: ∀ b o,I b=some o->w'.heap[b]? =w.heap[b]?):zAt I (M.set id q) w' i (ob.mapAS (Vm.kill id)):=by
 have key:(M.set id q)[i]? =M[i]? :=by rw [qP (Ne.symm hne)]
 cases ob with
 | row e T xs =>
   obtain ⟨h0,h⟩:=h;refine ⟨h0,?_⟩;rw [key];cases hβ:M[i]? with
   | none=>simp [hβ] at h
   | some x =>
     cases x with
     | none=>simpa [hβ] using h
     | some p =>
       simp only [hβ] at h ⊢;obtain ⟨h1,h2,h3,c,h4,h5⟩:=h;exact ⟨h1,h2,h3,c,by rw [hk p hβ];exact h4,h5⟩
 | flat T cs =>
   obtain ⟨p,h1,h2,h3,h4,h5,c,h6,h7⟩:=h;exact ⟨p,by rw [key];exact h1,h2,by simpa using h3,h4,by simpa using h5,c,by rw [hk p h1];exact h6,h7.map (Vm.kill id) fun _ _ h=>h.kill⟩
 | map k v m =>
   obtain ⟨h0,p,es,clock,h1,h2,h3⟩:=h;exact ⟨h0,p,es,clock,by rw [key];exact h1,by rw [hk p h1];exact h2,h3⟩
 | gmap k e m =>
   obtain ⟨h0,p,es,clock,h1,h2,h3,h4,h5,h6⟩:=h;exact ⟨h0,p,es,clock,by rw [key];exact h1,by rw [hk p h1];exact h2,h3,h4,h5.keep (fun _ _ e=>e) hkn,h6⟩
 | grow e T xss =>
   obtain ⟨h0,p,h1,h2,h3,h4,c,h5,h6,h7,h8⟩:=h;exact ⟨h0,p,by rw [key];exact h1,h2,h3,h4,c,by rw [hk p h1];exact h5,h6,h7,h8.keep (fun _ _ e=>e) hkn⟩
 | fr X l=>exact ⟨by rw [key];exact h.1,fun t=>by rw [zBt _ rfl];exact (h.2 t).mapAS fun _ _ h=>h.kill⟩
theorem GG.replace (h:GG B I M st tmps w) {id:Nat} {ob ob':Ob} (hi:hget st.hp id=some ob) {q:Option Bk} {w':World}
 (hw: ∀ k,k<w.heap.size->(∀ p,M[id]? =some (some p)->k≠p.b)->w'.heap[k]? =w.heap[k]?) (hb:Below B.w.heap.size w w')
 (ho:zAt I (M.set id q) w' id ob') (hq: ∀ p',q=some p'->p'.b=w.heap.size\/∃ p,M[id]? =some (some p)/\p'.b=p.b) :
 GG B I (M.set id q) {env:=st.env.mapAS (kill id),hp:=zBZ (st.hp.mapAS (kill id)) id ob',next:=st.next} tmps w':=by
 have hlt:=h.id_lt hi;have hex: ∃ o,hget (st.hp.mapAS (kill id)) id=some o:=by rw [zB5,hi];exact ⟨_,rfl⟩
 have hat:(M.set id q)[id]? =some q:=by rw [yT];rw [h.len];exact hlt
 have hof: ∀ {i:Nat},i≠id->(M.set id q)[i]? =M[i]? :=fun hne=>by rw [qP (Ne.symm hne)]
 have hsig: ∀ b o,I b=some o->b<w.heap.size:=fun b o e=>h.mem.ag.lt e
 have old: ∀ {i:Nat} {ob2:Ob},i≠id->(hget st.hp i).map (Ob.mapAS (kill id))=some ob2->∃ ob1,hget st.hp i=some ob1/\ob2=ob1.mapAS (kill id):=by
  intro i ob2 _ e;cases e1:hget st.hp i with
  | none=>rw [e1] at e;cases e
  | some ob1=>rw [e1] at e;cases e;exact ⟨ob1,rfl,rfl⟩
 refine ⟨⟨fun b o e=> ?_,fun i ob2 hi2=> ?_⟩,fun t=> ?_,by simpa using h.len,fun i ob2 p hi2 hp2=> ?_,h.bel.trans hb,h.grew⟩
 ·rw [hw b (hsig b o e) (fun p hp=>by
   have:=(h.sep _ _ _ hi hp).1
   rintro rfl;rw [this] at e;cases e)]
  exact h.mem.ag _ _ e
 ·simp only [zAx hex] at hi2;split at hi2
  ·rename_i e;subst e;cases hi2;exact ho
  ·rename_i hne;rw [zB5] at hi2;obtain ⟨ob1,e1,rfl⟩:=old hne hi2;have hob:=h.mem.ob _ _ e1
   exact hob.killed hne (fun p hp=>hw _ (hob.lt hp) fun p' hp'=>(h.sep _ _ _ hi hp').2.2 _ _ _ hne e1 hp) fun b o e=>hw b (hsig b o e) fun p hp=>by
    have:=(h.sep _ _ _ hi hp).1;rintro rfl;rw [this] at e;cases e
 ·rw [zBt _ rfl];exact (h.env t).mapAS fun _ _=>y7.kill
 ·simp only [zAx hex] at hi2;split at hi2
  ·rename_i e;subst e;rw [hat] at hp2;cases hp2
   have other: ∀ (id':Nat) (ob'':Ob) (p':Bk),id'≠i->hget (zBZ (st.hp.mapAS (kill i)) i ob') id'=some ob''->(M.set i (some p))[id']? =some (some p')->p'.b≠p.b:=by
    intro id' ob'' p' hne hi' hp';simp only [zAx hex,if_neg hne,zB5] at hi';obtain ⟨ob1,e1,rfl⟩:=old hne hi';rw [hof hne] at hp';have hob:=h.mem.ob _ _ e1;rcases hq p rfl with hq|⟨p0,hp0,hq⟩
    ·have:=hob.lt hp';omega
    ·rw [hq];exact (h.sep _ _ _ hi hp0).2.2 _ _ _ hne e1 hp'
   rcases hq p rfl with hq|⟨p0,hp0,hq⟩
   ·refine ⟨?_,by rw [hq];exact h.bel.size,other⟩;cases e:I p.b with
    | none=>rfl
    | some o=>have:=hsig _ _ e;omega
   ·obtain ⟨s1,s2,s3⟩:=h.sep _ _ _ hi hp0;exact ⟨by rw [hq];exact s1,by rw [hq];exact s2,other⟩
  ·rename_i hne;rw [zB5] at hi2;obtain ⟨ob1,e1,rfl⟩:=old hne hi2;rw [hof hne] at hp2;obtain ⟨t1,t2,t3⟩:=h.sep _ _ _ e1 hp2;refine ⟨t1,t2,fun id' ob'' p' hne2 hi' hp'=> ?_⟩;simp only [zAx hex] at hi';split at hi'
   ·rename_i e;subst e;rw [hat] at hp';cases hp';have hob:=h.mem.ob _ _ e1;rcases hq p' rfl with hq|⟨p0,hp0,hq⟩
    ·have:=hob.lt hp2;omega
    ·rw [hq];exact t3 _ _ _ hne2 hi hp0
   ·rename_i hne3;rw [zB5] at hi';obtain ⟨ob3,e3,rfl⟩:=old hne3 hi';rw [hof hne3] at hp';exact t3 _ _ _ hne2 e3 hp'
theorem zC0 {t ty u:TypeId} {i:TypeInfo} (ht:P.underlying t=some (.slice u)) (hi:P.info? u=some i)
 {g off sLen sCap:Nat} {cur:Array Value} {e:TypeId} (hg:w.heap[g]? =some (.cells cur e (0,0)))
 {a:Addr} {m c:Nat} {news:List Value} (hl:news.length=m*i.size) (hnews: ∀ j u,news[j]? =some u->w.cell? (a.add j)=some u) (h1: ∀ u∈news,u.oneCell'=true)
 (hroom:sLen+m<=sCap) (hfit:off+sLen*i.size+news.length<=cur.size) :
 (Builtin.append_ #[t,t] ty #[.slice (some ⟨g,off,none⟩) sLen sCap,.slice (some a) m c]).run P w =
   .ok (.slice (some ⟨g,off,none⟩) (sLen+m) sCap) (w.setRow g (cur.toList.take (off+sLen*i.size)++news++cur.toList.drop (off+sLen*i.size+news.length)).toArray):=by
 have hf:=run_firstCells_some (P:=P) w i.size m a m c news hl hnews;have hst:=run_storeCells_at P g (off+sLen*i.size) e news 0 cur w hg (by simpa using hfit) h1;simp only [zBX] at hst;simp [Builtin.append_,run_underlying ht,sizeOf,typeInfo,hi,Builtin.lenOf,hroom,hf,Addr.add_none,hst]
theorem zCg {t ty u:TypeId} {i:TypeInfo} (ht:P.underlying t=some (.slice u)) (hi:P.info? u=some i) {b ao:Option Addr} {n cap c:Nat} (hc:n<=cap) :
 (Builtin.append_ #[t,t] ty #[.slice b n cap,.slice ao 0 c]).run P w= .ok (.slice b n cap) w:=by
 have hf:(Builtin.firstCells i.size 0 (.slice ao 0 c)).run P w= .ok #[] w:=by
  cases ao<;>simp [Builtin.firstCells,loadCells,loadCellsFrom]
 cases b with
 | none=>simp [Builtin.append_,run_underlying ht,sizeOf,typeInfo,hi,Builtin.lenOf,hc,hf]
 | some b=>simp [Builtin.append_,run_underlying ht,sizeOf,typeInfo,hi,Builtin.lenOf,hc,hf,storeCells]
theorem zEz {t ty e:TypeId} {i:TypeInfo} {z:Value} (ht:P.underlying t=some (.slice e)) (hi:P.info? e=some i) (hz:i.zero=some z) (b:Option Addr)
 {a:Addr} {n c:Nat} {news:List Value} (hl:news.length=n*i.size) (hnews: ∀ (j:Nat) (v:Value),news[j]? =some v->w.cell? (a.add j)=some v)
 (h0:0<n) (h63:(n:Int)<=9223372036854775807) (h48:n*i.bytes<=281474976710656) :
 (Builtin.append_ #[t,t] ty #[.slice b 0 0,.slice (some a) n c]).run P w =
   .ok (.slice (some ⟨w.heap.size,0,none⟩) n (grownCap w n 0 e)) (w.drew.alloc (.cells (news.toArray++Builtin.zeroCells z.cells (grownCap w n 0 e - n)) e)):=by
 cases b with
 | none=>exact run_append_nil w t ty e i z ht hi hz a n c news hl hnews h0 h63 h48
 | some b =>
   have:=run_append_grow w t ty e i z ht hi hz b 0 0 [] (by simp) (by simp) a n c news hl hnews (by omega) (by simpa using h63) (by rw [yK,nextslicecap_zero h0];exact h48);simpa using this
theorem zIG (h:Mem I M st.hp w) {a:AV} {x:Value} (ha:qA I M a x) {e:ETy} {ys:List e.T} (hv:a.view st.hp= .s (.sl e ys)) :
 ∃ ao c,x= .slice ao ys.length c/\ys.length<=140737488355328/\(ys≠[]->∃ ad,ao=some ad/\∃ dss,jZ (jI I e) ys dss/\∀ (j:Nat) (u:Value),dss.flatten[j]? =some u->w.cell? (ad.add j)=some u):=by
 cases a with
 | tup l=>simp [AV.view] at hv
 | agg l=>simp [AV.view] at hv
 | s a =>
   simp only [AV.view,AV.s.injEq] at hv
   have stable: ∀ {x:Value},y7 I M (.sl e ys) x->∃ ao c,x= .slice ao ys.length c/\ys.length<=140737488355328/\(ys≠[]->∃ ad,ao=some ad/\∃ dss,jZ (jI I e) ys dss/\∀ (j:Nat) (u:Value),dss.flatten[j]? =some u->w.cell? (ad.add j)=some u):=by
    intro x hx;obtain ⟨ao,c,e1,h1,h2,h3⟩:=hx;refine ⟨ao,c,(List.cons.inj e1).1,h1,fun hne=> ?_⟩;obtain ⟨b,o,rfl,h4⟩:=h3 hne
    obtain ⟨dss,h5,h6⟩:=zEY (I:=I) (look:=fun k=>w.cell? ⟨b,k,none⟩) (k:=o) (fun i y hy=>by
     obtain ⟨d,h7,h8⟩:=h4 i y hy
     exact ⟨d,h7,fun j u hu=>zH1 h h8 j u hu⟩)
    exact ⟨_,rfl,dss,h5,fun j u hu=>by rw [Addr.add_none];exact h6 j u hu⟩
   cases a with
   | sl e' xs=>simp only [view] at hv;cases hv;exact stable ha
   | own id s n =>
     simp only [view] at hv;split at hv
     ·rename_i e' u xs hid;cases hv;have hob:=h.obp hid;obtain ⟨hl,hob⟩:=hob;have hx:y7 I M (.own id s n) x:=ha;simp only [y7] at hx;cases hβ:M[id]? with
      | none=>simp [hβ] at hx
      | some q =>
        cases q with
        | none =>
          simp only [hβ] at hx hob;obtain ⟨⟨a0,rfl⟩,rfl,rfl⟩:=hx;subst hob;exact ⟨a0,0,rfl,by simp,fun h=>(h rfl).elim⟩
        | some p =>
          simp only [hβ] at hx hob;obtain ⟨ad,cap,rfl,h1,h2,h3,h4⟩:=hx;obtain ⟨q1,q2,q3,c,q4,q5,q6⟩:=hob;have hlen:((xs.drop s).take n).length=n:=by simp;omega
          refine ⟨some ad,cap,by rw [hlen],by omega,fun hne=> ?_⟩
          have hn:n≠0:=by
           rintro rfl;simp at hne
          obtain rfl:ad=_:=h2.resolve_left (by omega)
          obtain ⟨dss,h5,h6⟩:=zEY (I:=I) (e:=e) (xs:=(xs.drop s).take n) (look:=fun k=>w.cell? ⟨p.b,k,none⟩) (k:=p.o+s*p.sz) (fun i y hy=>by
           have hy':xs[s+i]? =some y:=by
            rw [yS] at hy;split at hy
            ·rw [jU] at hy;exact hy
            ·cases hy
           obtain ⟨d,h7,h8⟩:=q6 _ _ hy';refine ⟨d,h7,fun j u hu=> ?_⟩;rw [zAD q4,<- q1,zAP p.o,<- Nat.add_mul]
           exact h8 j u hu)
          exact ⟨_,rfl,dss,h5,fun j u hu=>by rw [Addr.add_none];exact h6 j u hu⟩
     ·cases hv
   | ptr i j k =>
     cases k with
     | zero=>simp only [view] at hv;split at hv<;>cases hv
     | succ k=>simp [view] at hv
   | pti i j k=>simp [view] at hv
   | omp id=>simp only [view] at hv;split at hv<;>cases hv
   | emp e' =>
     obtain ⟨a0,rfl⟩:=ha;simp only [view] at hv;cases hv;exact ⟨a0,0,rfl,by simp,fun h=>(h rfl).elim⟩
   | _=>simp [view] at hv
theorem zKl {e:ETy} : ∀ {xs:List e.T} {dss:List (List Value)},jZ (jI I e) xs dss->∀ u∈dss.flatten,u.oneCell'=true
 | [],[],_=>by simp
 | _::_,_::_,h=>by
   intro u hu;simp only [List.flatten_cons,zY] at hu;rcases hu with hu|hu
   ·exact h.1.one u hu
   ·exact zKl h.2 u hu
 | [],_::_,h=>h.elim
 | _::_,[],h=>h.elim
theorem zN5 (hT:zAZ P T) (h:GG B I M st tmps w) (hd:zBM o.dst tmps) {x y:Operand} {ts:Array TypeId} (ho:o.op= .call {callee:= .builtin .append,args:= #[x,y],argTypes:=ts})
 {a b:AV} (ha:qA I M a (ρ x)) (hb:qA I M b (ρ y)) {p q:Option Prop} {st':St} (he:zUI T ts.toList a b st o.dst=some (p,q,st')):Opt p/\(Opt q->zJJ P B o ρ st' tmps w):=by
 unfold zUI at he;split at he
 case h_2=>cases he
 rename_i t t' id s n e' ys hts hbv;split at he
 case h_2=>cases he
 rename_i u' e u xs htt hdc hid;split at he
 case h_2=>cases he
 rename_i hee ui hdec huu hui;subst hee;split at he
 case h_2=>cases he
 rename_i hbz hsz hsz0;cases he;refine ⟨trivial,fun hreq=> ?_⟩;have hreq:((n:Int)+ys.length)*ui.bytes<=140737488355328:=hreq;obtain rfl:=zC htt;obtain rfl:=zC huu;have hsz:=zC hsz;have hsz0:ui.size≠0:=by intro e;rw [e] at hsz0;cases hsz0
 have hbz:ui.bytes≠0:=by intro e;rw [e] at hbz;cases hbz
 have htt:ts= #[t,t]:=by rw [<- Array.toArray_toList (xs:=ts),hts]
 subst htt;obtain ⟨i,z,hi,hsi,hbi,hzz,hzl⟩:=(hT _ _ hui).get;have hzs:z.cells.size=i.size:=by rw [hsi,<- (hT _ _ hui).zlen,<- hzl];simp
 have hund:=hT.und hdc (by simp);obtain ⟨ao,c,hy,hyl,hyc⟩:=zIG h.mem hb hbv;have hob:=h.mem.ob _ _ hid;obtain ⟨hxl,hob⟩:=hob;have hx:y7 I M (.own id s n) (ρ x):=ha
 have hreqN:(n+ys.length)*ui.bytes<=140737488355328:=by
  have:(((n+ys.length)*ui.bytes:Nat):Int)<=140737488355328:=by push_cast;exact hreq
  omega
 have hlen63:n+ys.length<=140737488355328:=qT (Nat.le_mul_of_pos_right _ (by omega)) hreqN;have hlt:id<M.length:=by rw [h.len];exact h.id_lt hid
 have exec: ∀ {v':Value} {w':World},(Builtin.append_ #[t,t] o.type #[ρ x,ρ y]).run P w= .ok v' w'->(execOp ρ o).run P w= .ok (.value v') w':=by
  intro v' w' hr;simp [execOp,ho,resolve,invoke,builtin,hr]
 -- the new thing, once its place and cells are known
 have fin: ∀ {q:Option Bk} {v':Value} {w':World},(execOp ρ o).run P w= .ok (.value v') w'->
  (∀ k,k<w.heap.size->(∀ p,M[id]? =some (some p)->k≠p.b)->w'.heap[k]? =w.heap[k]?)->Below B.w.heap.size w w'->
  (∀ p',q=some p'->p'.b=w.heap.size\/∃ p,M[id]? =some (some p)/\p'.b=p.b)->
  zAt I (M.set id q) w' id (.row e' u ((xs.drop s).take n++ys))->y7 I (M.set id q) (.own id 0 (n+ys.length)) v'->
  zJJ P B o ρ (({env:=st.env.mapAS (kill id),hp:=zBZ (st.hp.mapAS (kill id)) id (.row e' u ((xs.drop s).take n++ys)),next:=st.next} :St).put o.dst (.s (.own id 0 (n+ys.length)))) tmps w:=by
  intro q v' w' hr hw hbw hq hob' hv';exact ⟨v',w',I,_,.inl hr,(h.replace hid hw hbw hob' hq).put hd hv'⟩
 have hzl':((xs.drop s).take n++ys).length<=140737488355328:=by
  have:((xs.drop s).take n).length<=n:=List.length_take_le _ _;simp only [z7];omega
 simp only [y7] at hx;cases hβ:M[id]? with
 | none=>simp [hβ] at hx
 | some q0 =>
   cases q0 with
   | none =>
     simp only [hβ] at hx hob;obtain ⟨⟨a0,hx⟩,rfl,rfl⟩:=hx;subst hob
     by_cases hye:ys=[]
     ·subst hye;refine fin (q:=none) (exec (by rw [hx,hy];exact zCg hund hi (zI 0))) (fun _ _ _=>rfl) (Below.refl _ _) (by rintro p' ⟨⟩) ?_ ?_
      ·refine ⟨by simp,?_⟩;rw [yT hlt];simp
      ·simp only [y7];rw [yT hlt];simp
     ·obtain ⟨ad,rfl,dss,hd1,hd2⟩:=hyc hye;have hfl:=zAu hd1;have hpos:0<ys.length:=zAR.2 hye;have hr:=zEz (P:=P) (w:=w) (ty:=o.type) (c:=c) hund hi hzz a0 (a:=ad) (n:=ys.length) (news:=dss.flatten) (by rw [hfl,hsi,hsz]) hd2 hpos (by omega) (by rw [hbi];simp only [yK] at hreqN;omega);have hge:=grownCap_ge w ys.length 0 u;refine fin (q:=some ⟨w.heap.size,0,e'.size,grownCap w ys.length 0 u*e'.size,ys.length⟩) (exec (by rw [hx,hy];exact hr)) (fun k hk _=>Go.heap_alloc_old w.drew _ (by simpa using hk)) ?_ (by rintro p' ⟨⟩;exact .inl rfl) ?_ ?_
      ·exact ((Below.refl _ w).drew).alloc (by simpa using h.bel.size) _
      ·refine ⟨hzl',?_⟩;rw [yT hlt]
       have hsize:(dss.flatten.toArray++Builtin.zeroCells z.cells (grownCap w ys.length 0 u - ys.length)).size=grownCap w ys.length 0 u*e'.size:=by
        simp only [Array.size_append,List.size_toArray,size_zeroCells,hzs,hfl,hsi,hsz,<- Nat.add_mul]
        congr 1;omega
       refine ⟨rfl,by simp,by simp only [yK];exact yD _ hge,_,heap_alloc_new w.drew _,hsize,?_⟩;simp only [yK,List.drop_nil,List.take_nil,zBQ]
       have:=zC1 (I:=I) (look:=fun k=>(dss.flatten.toArray++Builtin.zeroCells z.cells (grownCap w ys.length 0 u - ys.length))[k]?) (k:=0) hd1 (fun j v hj=>by
        rw [yK,Array.getElem?_append_left (by simpa using (zG.1 hj).1)];simpa using hj)
       simpa using this
      ·simp only [y7];rw [yT hlt];exact ⟨_,_,by rw [yK],by simpa using hge,.inr (by simp),by simp,by simp⟩
   | some p =>
     simp only [hβ] at hx hob;obtain ⟨ad0,cap,hx,h1,h2,h3,h4⟩:=hx;obtain ⟨q1,q2,q3,cur,q4,q5,q6⟩:=hob;have hsep:=h.sep _ _ _ hid hβ;have htl:((xs.drop s).take n).length=n:=by simp;omega
     -- the elements that are there already
     have olds:RowsIn I e' ((xs.drop s).take n) cur.toList (p.o+s*p.sz):=by
      intro i' y hy'
      have hyy:xs[s+i']? =some y:=by
       rw [yS] at hy';split at hy'
       ·rw [jU] at hy';exact hy'
       ·cases hy'
      obtain ⟨d,h7,h8⟩:=q6 _ _ hyy;refine ⟨d,h7,fun j v hj=> ?_⟩;rw [zJ,<- q1,zAP p.o,<- Nat.add_mul];exact h8 j v hj
     by_cases hye:ys=[]
     ·subst hye;refine fin (q:=some {p with o:=p.o+s*p.sz,L:=n}) (exec (by rw [hx,hy];exact zCg hund hi h1)) (fun _ _ _=>rfl) (Below.refl _ _) (by rintro p' ⟨⟩;exact .inr ⟨p,hβ,rfl⟩) ?_ ?_
      ·refine ⟨hzl',?_⟩;rw [yT hlt];refine ⟨q1,by simp [htl],?_,cur,q4,q5,?_⟩
       ·show p.o+s*p.sz+n*p.sz<=p.N;have:=yD p.sz (show s+n<=s+cap by omega);rw [Nat.add_mul] at this;omega
       ·intro i' y hy';obtain ⟨d,g1,g2⟩:=olds i' y (by simpa using hy');exact ⟨d,g1,fun j v hj=>by have:=g2 j v hj;rw [zJ,<- q1] at this;exact this⟩
      ·simp only [y7];rw [yT hlt];refine ⟨ad0,cap,rfl,by simpa using h1,h2.imp_right fun e=>by rw [e];simp,?_,by simp⟩;show p.o+s*p.sz+(0+cap)*p.sz<=p.N;rw [yK];rw [Nat.add_mul] at h3;omega
     ·obtain ⟨ad,rfl,dss,hd1,hd2⟩:=hyc hye;have hfl:=zAu hd1;have hpos:0<ys.length:=zAR.2 hye
      by_cases hroom:n+ys.length<=cap
      ·obtain rfl:ad0=_:=h2.resolve_left (by omega)
       have hfit:p.o+s*p.sz+n*i.size+dss.flatten.length<=cur.size:=by
        rw [hfl,hsi,hsz,<- q1,q5];have:=yD p.sz (show s+(n+ys.length)<=s+cap by omega);rw [Nat.add_mul,Nat.add_mul] at this;omega
       have hr:=zC0 (P:=P) (w:=w) (ty:=o.type) hund hi q4 (by rw [hfl,hsi,hsz]) hd2 (zKl hd1) hroom hfit (c:=c);refine fin (q:=some {p with o:=p.o+s*p.sz,L:=n+ys.length}) (exec (by rw [hx,hy];exact hr)) (fun k _ hk=>setRow_other w p.b k _ (hk p hβ)) (Below.setRow w _ _ hsep.2.1) (by rintro p' ⟨⟩;exact .inr ⟨p,hβ,rfl⟩) ?_ ?_
       ·refine ⟨hzl',?_⟩;rw [yT hlt];have hcl:p.o+s*p.sz+n*i.size+dss.flatten.length<=cur.toList.length:=by simpa using hfit
        refine ⟨q1,by simp [htl],?_,_,zB3 _ q4,?_,?_⟩
        ·show p.o+s*p.sz+(n+ys.length)*p.sz<=p.N;rw [hfl,hsi,hsz,<- q1,q5] at hfit;rw [Nat.add_mul];omega
        ·have hcc:cur.toList.length=cur.size:=by simp
         simp only [List.size_toArray,z7,zAN,zE1,Nat.min_eq_left (show p.o+s*p.sz+n*i.size<=cur.toList.length by omega)];omega
        ·intro i' yv hy';simp only [List.getElem?_toArray,zBv hcl];rw [List.getElem?_append] at hy';split at hy'
         ·rename_i hlt';obtain ⟨d,g1,g2⟩:=olds i' yv hy';have hdl:=g1.length;refine ⟨d,g1,fun j v hj=> ?_⟩;have hj':=(zG.1 hj).1;have:=yD e'.size (show i'+1<=n by omega);rw [Nat.succ_mul] at this;rw [if_pos (by rw [hsi,hsz,q1];omega)];have:=g2 j v hj;rw [q1];rw [q1] at this;exact this
         ·rename_i hge;have:=zC1 (I:=I) (look:=fun k=>dss.flatten[k]?) (k:=0) hd1 (fun j v hj=>by simpa using hj) (i' - ((xs.drop s).take n).length) yv hy';obtain ⟨d,g1,g2⟩:=this;have hdl:=g1.length;refine ⟨d,g1,fun j v hj=> ?_⟩;have hj':=(zG.1 hj).1;have hg:=g2 j v hj;have hg':=(zG.1 hg).1;rw [htl] at hg hg' hge;have e1:i'*e'.size=n*e'.size+(i' - n)*e'.size:=by rw [<- Nat.add_mul];congr 1;omega
          rw [hsi,hsz,q1];rw [if_neg (by omega),if_pos (by omega)];rw [<- hg];congr 1;omega
       ·simp only [y7];rw [yT hlt];refine ⟨_,cap,rfl,by simpa using hroom,.inr (by simp),?_,by simp⟩;show p.o+s*p.sz+(0+cap)*p.sz<=p.N;rw [yK];rw [Nat.add_mul] at h3;omega
      ·-- a new array
       obtain ⟨ods,hod1,hod2⟩:=zEY (I:=I) (look:=fun k=>cur.toList[k]?) (k:=p.o+s*p.sz) olds;have hofl:=zAu hod1;rw [htl] at hofl
       have hold: ∀ (j:Nat) (v:Value),ods.flatten[j]? =some v->w.cell? (ad0.add j)=some v:=by
        intro j v hj;have hj':=(zG.1 hj).1;have hn:n≠0:=by rintro rfl;rw [Nat.zero_mul] at hofl;omega
        obtain rfl:ad0=_:=h2.resolve_left (by omega);rw [Addr.add_none,zAD q4,<- zJ];exact hod2 j v hj
       have hr:=run_append_grow (P:=P) w t o.type u i z hund hi hzz ad0 n cap ods.flatten (by rw [hofl,hsi,hsz]) hold ad ys.length c dss.flatten (by rw [hfl,hsi,hsz]) hd2 (by omega) (by omega) (growslice_fits (by omega) (by rw [hbi];exact hreqN));have hge:=grownCap_ge w (n+ys.length) cap u;refine fin (q:=some ⟨w.heap.size,0,e'.size,grownCap w (n+ys.length) cap u*e'.size,n+ys.length⟩) (exec (by rw [hx,hy];exact hr)) (fun k hk _=>Go.heap_alloc_old w.drew _ (by simpa using hk)) ?_ (by rintro p' ⟨⟩;exact .inl rfl) ?_ ?_
       ·exact ((Below.refl _ w).drew).alloc (by simpa using h.bel.size) _
       ·refine ⟨hzl',?_⟩;rw [yT hlt]
        have hsize:(ods.flatten.toArray++dss.flatten.toArray++Builtin.zeroCells z.cells (grownCap w (n+ys.length) cap u - (n+ys.length))).size=grownCap w (n+ys.length) cap u*e'.size:=by
         simp only [Array.size_append,List.size_toArray,size_zeroCells,hzs,hfl,hofl,hsi,hsz,<- Nat.add_mul]
         congr 1;omega
        refine ⟨rfl,by simp [htl],by simp only [yK];exact yD _ hge,_,heap_alloc_new w.drew _,hsize,?_⟩;have hall:jZ (jI I e') ((xs.drop s).take n++ys) (ods++dss):=hod1.append hd1
        have:=zC1 (I:=I) (look:=fun k=>(ods.flatten.toArray++dss.flatten.toArray++Builtin.zeroCells z.cells (grownCap w (n+ys.length) cap u - (n+ys.length)))[k]?) (k:=0) hall (fun j v hj=>by
         rw [List.flatten_append] at hj
         rw [yK,Array.getElem?_append_left (by simpa using (zG.1 hj).1)];simpa using hj)
        simpa using this
       ·simp only [y7];rw [yT hlt];exact ⟨_,_,rfl,by simpa using hge,.inr (by simp),by simp,by simp⟩
theorem zNt (hT:zAZ P T) (h:GG B I M st tmps w) (hd:zBM o.dst tmps) {x y:Operand} {ts:Array TypeId} (ho:o.op= .call {callee:= .builtin .append,args:= #[x,y],argTypes:=ts})
 {e:ETy} {b:AV} (ha:y7 I M (.emp e) (ρ x)) (hb:qA I M b (ρ y)) {p q:Option Prop} {st':St} (he:zNa T ts.toList e b st o.dst=some (p,q,st')):Opt p/\(Opt q->zJJ P B o ρ st' tmps w):=by
 unfold zNa at he;split at he
 case h_2=>cases he
 rename_i t t' e' ys g hp0 hts hbv hhp;split at he
 case h_2=>cases he
 rename_i u htt hdc;split at he
 case h_2=>cases he
 rename_i hee ui hdec hui;subst hee;split at he
 case h_2=>cases he
 rename_i hbz hsz hsz0;cases he;refine ⟨trivial,fun hreq=> ?_⟩;have hreq:(ys.length:Int)*ui.bytes<=140737488355328:=hreq;obtain rfl:=zC htt;have hsz:=zC hsz;have hsz0:ui.size≠0:=by intro e;rw [e] at hsz0;cases hsz0
 have hbz:ui.bytes≠0:=by intro e;rw [e] at hbz;cases hbz
 have htt:ts= #[t,t]:=by rw [<- Array.toArray_toList (xs:=ts),hts]
 subst htt;obtain ⟨i,z,hi,hsi,hbi,hzz,hzl⟩:=(hT _ _ hui).get;have hzs:z.cells.size=i.size:=by rw [hsi,<- (hT _ _ hui).zlen,<- hzl];simp
 have hund:=hT.und hdc (by simp);obtain ⟨ao,c,hy,hyl,hyc⟩:=zIG h.mem hb hbv;have hid:hget st.hp g=some (.row .unit 0 []):=by rw [hhp,yB,if_pos rfl]
 obtain ⟨a0,hx⟩:=ha
 have hreqN:ys.length*ui.bytes<=140737488355328:=by
  have:((ys.length*ui.bytes:Nat):Int)<=140737488355328:=by push_cast;exact hreq
  omega
 have hlt:g<M.length:=by rw [h.len];exact h.id_lt hid
 have exec: ∀ {v':Value} {w':World},(Builtin.append_ #[t,t] o.type #[ρ x,ρ y]).run P w= .ok v' w'->(execOp ρ o).run P w= .ok (.value v') w':=by
  intro v' w' hr;simp [execOp,ho,resolve,invoke,builtin,hr]
 have fin: ∀ {q:Option Bk} {v':Value} {w':World},(execOp ρ o).run P w= .ok (.value v') w'->
  (∀ k,k<w.heap.size->(∀ p,M[g]? =some (some p)->k≠p.b)->w'.heap[k]? =w.heap[k]?)->Below B.w.heap.size w w'->
  (∀ p',q=some p'->p'.b=w.heap.size\/∃ p,M[g]? =some (some p)/\p'.b=p.b)->
  zAt I (M.set g q) w' g (.row e' u ys)->y7 I (M.set g q) (.own g 0 ys.length) v'->
  zJJ P B o ρ (({env:=st.env.mapAS (kill g),hp:=zBZ (st.hp.mapAS (kill g)) g (.row e' u ys),next:=st.next} :St).put o.dst (.s (.own g 0 ys.length))) tmps w:=by
  intro q v' w' hr hw hbw hq hob' hv';exact ⟨v',w',I,_,.inl hr,(h.replace hid hw hbw hob' hq).put hd hv'⟩
 by_cases hye:ys=[]
 ·subst hye;refine fin (q:=none) (exec (by rw [hx,hy];exact zCg hund hi (zI 0))) (fun _ _ _=>rfl) (Below.refl _ _) (by rintro p' ⟨⟩) ?_ ?_
  ·refine ⟨by simp,?_⟩;rw [yT hlt]
  ·simp only [y7];rw [yT hlt];simp
 ·obtain ⟨ad,rfl,dss,hd1,hd2⟩:=hyc hye;have hfl:=zAu hd1;have hpos:0<ys.length:=zAR.2 hye;have hr:=zEz (P:=P) (w:=w) (ty:=o.type) (c:=c) hund hi hzz a0 (a:=ad) (n:=ys.length) (news:=dss.flatten) (by rw [hfl,hsi,hsz]) hd2 hpos (by omega) (by rw [hbi];omega);have hge:=grownCap_ge w ys.length 0 u;refine fin (q:=some ⟨w.heap.size,0,e'.size,grownCap w ys.length 0 u*e'.size,ys.length⟩) (exec (by rw [hx,hy];exact hr)) (fun k hk _=>Go.heap_alloc_old w.drew _ (by simpa using hk)) ?_ (by rintro p' ⟨⟩;exact .inl rfl) ?_ ?_
  ·exact ((Below.refl _ w).drew).alloc (by simpa using h.bel.size) _
  ·refine ⟨hyl,?_⟩;rw [yT hlt]
   have hsize:(dss.flatten.toArray++Builtin.zeroCells z.cells (grownCap w ys.length 0 u - ys.length)).size=grownCap w ys.length 0 u*e'.size:=by
    simp only [Array.size_append,List.size_toArray,size_zeroCells,hzs,hfl,hsi,hsz,<- Nat.add_mul]
    congr 1;omega
   refine ⟨rfl,by simp,by simp only [yK];exact yD _ hge,_,heap_alloc_new w.drew _,hsize,?_⟩;simp only [yK]
   have:=zC1 (I:=I) (look:=fun k=>(dss.flatten.toArray++Builtin.zeroCells z.cells (grownCap w ys.length 0 u - ys.length))[k]?) (k:=0) hd1 (fun j v hj=>by
    rw [yK,Array.getElem?_append_left (by simpa using (zG.1 hj).1)];simpa using hj)
   simpa using this
  ·simp only [y7];rw [yT hlt];exact ⟨_,_,rfl,by simpa using hge,.inr (by simp),by simp,by simp⟩
theorem zK0 (hT:zAZ P T) (h:GG B I M st tmps w) (hd:zBM o.dst tmps) {x y:Operand} {ts:Array TypeId} (ho:o.op= .call {callee:= .builtin .append,args:= #[x,y],argTypes:=ts})
 {a b:AV} (ha:qA I M a (ρ x)) (hb:qA I M b (ρ y)) {p q:Option Prop} {st':St} (he:zBu T ts.toList a b st o.dst=some (p,q,st')):Opt p/\(Opt q->zJJ P B o ρ st' tmps w):=by
 unfold zBu at he;split at he
 ·exact zNt hT h hd ho ha hb he
 ·exact zN5 hT h hd ho ha hb he
end
end Go.Vm
namespace Go.Vm
open Go.RowKit
def zDn (P:Program) (f:FuncId) (args:List AV) (r:Res):Prop :=
 ∀ (I:Sig) (vals:List Value) (w:World),Ag I w->jL I [] args vals->
   Opt r.1/\(Opt r.2.1->Calls P f vals.toArray w fun e w'=> ∃ v σ',e= .returned v/\I.le σ'/\Ag σ' w'/\
    (∀ b,b<w.heap.size->σ' b=I b)/\qA σ' [] r.2.2 v/\Below w.heap.size w w')
structure zYF (P:Program) (T:Tab):Prop where
 ok: ∀ f c,zEt T.fn f=some c->∀ args r,c args=some r->zDn P f args r
 fn : ∀ f c, zEt T.fn f = some c → ∃ fn, P.funcs[f]? = some fn ∧ (fn.name == "runtime.NumGoroutine") = false ∧ fn.body.isNone = false
section
variable {P:Program} {B:Base} {w:World} {I:Sig} {M:yN} {st:St} {tmps:Array Value} {T:Tab} {hp:zAG}
def zDh (w:World):Sig:=fun b=>w.heap[b]?
theorem zST (h:Mem I M hp w):I.le (zDh w):=fun b o e=>h.ag b o e
theorem zMZ:Ag (zDh w) w:=fun _ o e=>⟨o,e,.refl⟩
theorem zSx {τ:Sig} (hown: ∀ id ob p,hget hp id=some ob->M[id]? =some (some p)->τ p.b=w.heap[p.b]?) {id:Nat} {o:Ob} {p:Bk} (h:hgp hp id=some o) (hβ:M[id]? =some (some p)):τ p.b=w.heap[p.b]? :=by
 obtain ⟨o',h1,_⟩:=zFa h;exact hown _ _ _ h1 hβ
theorem view_rep_at {τ:Sig} (hτ:I.le τ) (hown: ∀ id ob p,hget hp id=some ob->M[id]? =some (some p)->τ p.b=w.heap[p.b]?) (h:Mem I M hp w) {a:AS} {v:Value} (ha:y7 I M a v):y7 τ [] (view hp a) v:=by
 cases a with
 | int=>exact ha
 | bool=>exact ha
 | val=>exact ha
 | sl=>exact jI.mono hτ ha
 | mp=>exact jI.mono hτ ha
 | pt=>exact jI.mono hτ ha
 | ip=>obtain ⟨b,o,d,e,h1,h2⟩:=ha;exact ⟨b,o,d,e,h1.mono hτ,h2.mono hτ⟩
 | ipi=>obtain ⟨b,o,d,e,h1,h2,h3⟩:=ha;exact ⟨b,o,d,e,h1.mono hτ,h2.mono hτ,h3⟩
 | junk=>trivial
 | pti=>trivial
 | own id s n =>
   simp only [view];split
   ·rename_i e u xs hid;obtain ⟨hl,hob⟩:=h.obp hid;simp only [y7] at ha;cases hβ:M[id]? with
    | none=>simp [hβ] at ha
    | some q =>
      cases q with
      | none =>
        simp only [hβ] at ha hob;obtain ⟨⟨a0,rfl⟩,rfl,rfl⟩:=ha;subst hob;exact ⟨a0,0,rfl,by simp,by simp,fun h=>(h rfl).elim⟩
      | some p =>
        simp only [hβ] at ha hob;obtain ⟨ad,cap,rfl,h1,h2,h3,h4⟩:=ha;obtain ⟨q1,q2,q3,c,q4,q5,q6⟩:=hob;have hlen:((xs.drop s).take n).length=n:=by simp;omega
        refine ⟨some ad,cap,by rw [hlen],by omega,by omega,fun hne=> ?_⟩;have hn:n≠0:=by rintro rfl;simp at hne
        obtain rfl:ad=_:=h2.resolve_left (by omega);refine ⟨p.b,p.o+s*p.sz,rfl,fun i y hy=> ?_⟩
        have hy':xs[s+i]? =some y:=by
         rw [yS] at hy;split at hy
         ·rw [jU] at hy;exact hy
         ·cases hy
        obtain ⟨d,h7,h8⟩:=q6 _ _ hy';refine ⟨d,h7.mono hτ,c,u,(0,0),(zSx hown hid hβ).trans q4,fun j v hj=> ?_⟩;have:=h8 j v hj;rw [<- this,<- q1,Nat.add_mul];congr 1;omega
   ·trivial
 | ptr id i k =>
   cases k with
   | succ k=>trivial
   | zero =>
     simp only [view];split
     ·rename_i e u xs hid;obtain ⟨hl,hob⟩:=h.obp hid;obtain ⟨p,hp',rfl,hi⟩:=ha;simp only [hp'] at hob;obtain ⟨q1,q2,q3,c,q4,q5,q6⟩:=hob;obtain ⟨y,hy⟩:=zBw (l:=xs) (q2▸hi);obtain ⟨d,h7,h8⟩:=q6 _ _ hy;rw [zDy hy];exact ⟨p.b,p.o+i*p.sz,d,rfl,h7.mono hτ,c,u,(0,0),(zSx hown hid hp').trans q4,h8⟩
     ·trivial
 | arr=>trivial
 | nq=>exact ha
 | emp e=>obtain ⟨a,rfl⟩:=ha;exact ⟨a,0,rfl,by simp,by simp,fun h=>(h rfl).elim⟩
 | clo f ps=>obtain ⟨vs,e,r⟩:=ha;exact ⟨vs,e,r.mono fun _ _=>jI.mono hτ⟩
 | omp id =>
   simp only [view];split
   ·rename_i k v m hid;obtain ⟨hl,p,es,clock,h1,h2,h3,h4⟩:=h.obp hid;obtain ⟨p',h1',rfl,_⟩:=ha;rw [h1] at h1';cases h1';refine ⟨some p.b,rfl,hl,(fun e=>by cases e),fun b hb=> ?_⟩;cases hb;exact ⟨es,clock,(zSx hown hid h1).trans h2,h3,fun i x hx=>let ⟨en,dk,dv,e1,e2,e3,e4,e5⟩:=h4 i x hx;⟨en,dk,dv,e1,e2.mono hτ,e3,e4.mono hτ,e5⟩⟩
   ·trivial
theorem AV.view_rep_at {τ:Sig} (hτ:I.le τ) (hown: ∀ id ob p,hget hp id=some ob->M[id]? =some (some p)->τ p.b=w.heap[p.b]?) (h:Mem I M hp w) {a:AV} {v:Value} (ha:qA I M a v):qA τ [] (a.view hp) v:=by
 cases a with
 | s a=>exact Vm.view_rep_at hτ hown h ha
 | agg l=>obtain ⟨ds,e,r⟩:=ha;exact ⟨ds,e,r.map (Vm.view hp) fun _ _ h'=>Vm.view_rep_at hτ hown h h'⟩
 | tup l=>trivial
theorem viewT_rep_at {τ:Sig} (hτ:I.le τ) (hown: ∀ id ob p,hget hp id=some ob->M[id]? =some (some p)->τ p.b=w.heap[p.b]?) (h:Mem I M hp w) {a:AS} {v:Value} (ha:y7 I M a v):y7 τ [] (viewT T hp a) v:=by
 unfold viewT;split
 ·split
  ·rename_i t cs hid;split
   ·split
    ·rename_i e he;split
     ·rename_i x hx;obtain ⟨p,hp',hv,hi⟩:=ha;obtain ⟨p2,q0,q1,q2,q3,q4,c,q5,q6⟩:=h.obp hid;rw [hp'] at q0;cases q0;have hE:jI τ e x c.toList:=ETy.dec_sound (M:=[]) hx (q6.map (Vm.view hp) fun _ _ h'=>view_rep_at hτ hown h h');refine ⟨p.b,0,c.toList,?_,hE,c,t,(0,0),(zSx hown hid hp').trans q5,fun j d hd=>by simpa using hd⟩;rw [hv,q1];simp
     ·trivial
    ·trivial
   ·trivial
  ·exact view_rep_at hτ hown h ha
 ·split
  ·rename_i t cs hid;split
   ·rename_i ns hns hln hle;obtain ⟨p,hp',hv,hnp,_⟩:=ha;obtain ⟨p2,q0,q1,q2,q3,q4,c,q5,q6⟩:=h.obp hid;rw [hp'] at q0;cases q0;obtain ⟨h1,h2,h3⟩:=zEX hns q6;have hln:=zC hln;have hle:=zU hle;refine ⟨some ⟨p.b,p.o,none⟩,_,by rw [hv,h1,hln],by omega,by omega,fun _=>⟨p.b,p.o,rfl,fun i x hx=> ?_⟩⟩;have hi:i<cs.length:=by have:=(zG.1 hx).1;omega
    obtain ⟨k1,k2⟩:=h3 i hi;rw [show ns.getD i 0=x by rw [zH,hx];rfl] at k1 k2;refine ⟨[.int .i64 x],⟨rfl,k2⟩,c,t,(0,0),(zSx hown hid hp').trans q5,fun j d hd=> ?_⟩;cases j with
    | zero =>
      simp at hd;subst hd;rw [q1,<- zJ,show 0+i*(ETy.int .i64).size+0=i by simp [ETy.size]];exact k1
    | succ j=>simp at hd
   ·trivial
  ·trivial
 ·exact view_rep_at hτ hown h ha
theorem AV.viewT_rep_at {τ:Sig} (hτ:I.le τ) (hown: ∀ id ob p,hget hp id=some ob->M[id]? =some (some p)->τ p.b=w.heap[p.b]?) (h:Mem I M hp w) {a:AV} {v:Value} (ha:qA I M a v):qA τ [] (a.viewT T hp) v:=by
 cases a with
 | s a=>exact Vm.viewT_rep_at hτ hown h ha
 | agg l=>obtain ⟨ds,e,r⟩:=ha;exact ⟨ds,e,r.map (Vm.viewT T hp) fun _ _ h'=>Vm.viewT_rep_at hτ hown h h'⟩
 | tup l=>trivial
theorem AV.viewT_rep (h:Mem I M hp w) {a:AV} {v:Value} (ha:qA I M a v):qA (zDh w) [] (a.viewT T hp) v:=AV.viewT_rep_at (zST h) (fun _ _ _ _ _=>rfl) h ha
theorem AS.clear_rep {a:AS} {v:Value} (hc:a.clear=true) (ha:y7 I M a v):view hp a=a/\y7 I [] a v:=by
 cases a<;>first|exact ⟨rfl,ha⟩|(simp [AS.clear] at hc)
theorem zMm: ∀ {l:List AS} {ds:List Value},l.all AS.clear=true->jZ (y7 I M) l ds->l.map (view hp)=l/\jZ (y7 I []) l ds
 | [],[],_,_=>⟨rfl,trivial⟩
 | a::l,d::ds,h,hr=>by
   simp only [qS,zA] at h;obtain ⟨h1,h2⟩:=zMm h.2 hr.2;obtain ⟨h3,h4⟩:=AS.clear_rep (hp:=hp) h.1 hr.1;exact ⟨by simp [h1,h3],h4,h2⟩
 | [],_::_,_,hr=>hr.elim
 | _::_,[],_,hr=>hr.elim
theorem AV.clear_rep {a:AV} {v:Value} (hc:a.clear=true) (ha:qA I M a v):a.view hp=a/\qA I [] a v:=by
 cases a with
 | s a=>obtain ⟨h1,h2⟩:=AS.clear_rep (hp:=hp) hc ha;exact ⟨congrArg AV.s h1,h2⟩
 | agg l=>obtain ⟨ds,e,r⟩:=ha;obtain ⟨h1,h2⟩:=zMm (hp:=hp) hc r;exact ⟨congrArg AV.agg h1,ds,e,h2⟩
 | tup l=>cases hc
theorem AS.clearT {a:AS} (hc:a.clear=true):viewT T hp a=a:=by
 cases a<;>first|rfl|(simp [AS.clear] at hc)
theorem AV.clear_repT {a:AV} {v:Value} (hc:a.clear=true) (ha:qA I M a v):a.viewT T hp=a/\qA I [] a v:=by
 refine ⟨?_,(AV.clear_rep (hp:=hp) hc ha).2⟩;cases a with
 | s a=>exact congrArg AV.s (AS.clearT hc)
 | agg l =>
   refine congrArg AV.agg ?_
   have: ∀ {l:List AS},l.all AS.clear=true->l.map (Vm.viewT T hp)=l:=by
    intro l
    induction l with
    | nil=>intro _;rfl
    | cons a l ih=>intro h;simp only [qS,zA] at h;rw [jV,AS.clearT h.1,ih h.2]
   exact this hc
 | tup l=>cases hc
theorem plain_rep {τ:Sig} {γ:yN} {a:AS} {v:Value} (hc:a.plain=true) (ha:y7 I M a v):y7 τ γ a v:=by
 cases a<;>first|exact ha|(simp [AS.plain] at hc)
theorem zHh {τ:Sig} {γ:yN} : ∀ {l:List AS} {ds:List Value},l.all AS.plain=true->jZ (y7 I M) l ds->jZ (y7 τ γ) l ds
 | [],[],_,_=>trivial
 | a::l,d::ds,h,hr=>by
   simp only [qS,zA] at h;exact ⟨plain_rep h.1 hr.1,zHh h.2 hr.2⟩
 | [],_::_,_,hr=>hr.elim
 | _::_,[],_,hr=>hr.elim
theorem zMI {τ:Sig} {γ:yN} : ∀ {l:List AV} {ds:List Value},(l.all fun v=>match v with
 | .s a=>a.plain
 | .agg l=>l.all AS.plain
 | .tup _=>false)=true->jL I M l ds->jL τ γ l ds
 | [],[],_,_=>trivial
 | a::l,d::ds,h,hr=>by
   simp only [qS,zA] at h;refine ⟨?_,zMI h.2 hr.2⟩;cases a with
   | s a=>exact plain_rep h.1 hr.1
   | agg l=>obtain ⟨ds,e,r⟩:=hr.1;exact ⟨ds,e,zHh h.1 r⟩
   | tup l=>cases h.1
 | [],_::_,_,hr=>hr.elim
 | _::_,[],_,hr=>hr.elim
theorem AV.plain_rep {τ:Sig} {γ:yN} {a:AV} {v:Value} (hc:a.plain=true) (ha:qA I M a v):qA τ γ a v:=by
 cases a with
 | s a=>exact Vm.plain_rep hc ha
 | agg l=>obtain ⟨ds,e,r⟩:=ha;exact ⟨ds,e,zHh hc r⟩
 | tup l=>obtain ⟨vs,e,r⟩:=ha;exact ⟨vs,e,zMI hc r⟩
theorem qA.nil_any {a:AV} {v:Value} (h:qA I [] a v):qA I M a v:=by
 refine h.map fun a v ha=> ?_;cases a with
 | own id s n=>simp [y7] at ha
 | ptr=>obtain ⟨p,e,_⟩:=ha;simp at e
 | pti=>obtain ⟨p,e,_⟩:=ha;simp at e
 | omp=>obtain ⟨p,e,_⟩:=ha;simp at e
 | arr=>obtain ⟨p,e,_⟩:=ha;simp at e
 | _=>exact ha
theorem GG.world (h:GG B I M st tmps w) {σ':Sig} {w':World} (hs:I.le σ') (hag:Ag σ' w') (hn: ∀ b,b<w.heap.size->σ' b=I b) (hb:Below w.heap.size w w'):GG B σ' M st tmps w':=by
 refine ⟨⟨hag,fun id ob hi=> ?_⟩,fun t=>(h.env t).mono hs,h.len,fun id ob p hi hp=> ?_,h.bel.trans (hb.mono h.bel.size),h.grew.1.trans hs,fun b hl=>(hn b (Nat.lt_of_lt_of_le hl h.bel.size)).trans (h.grew.2 b hl)⟩
 ·have hob:=h.mem.ob _ _ hi;exact (hob.same (fun p hp=>hb.block _ (hob.lt hp)) fun b o e=>hb.block _ (h.mem.ag.lt e)).sig hs fun b o e=>(hn b (h.mem.ag.lt e)).trans e
 ·obtain ⟨s1,s2,s3⟩:=h.sep _ _ _ hi hp;exact ⟨(hn _ ((h.mem.ob _ _ hi).lt hp)).trans s1,s2,s3⟩
theorem zGa (hF:zYF P T) (h:GG B I M st tmps w) {f:FuncId} {ts:List TypeId} {vs:List AV} {vals:List Value} (hv:jL I M vs vals) {p q:Option Prop} {v:AV}
 (hc:zFU T st.hp (.value (.func f)) ts vs=some (p,q,v)) :
 Opt p/\(Opt q->Calls P f vals.toArray w fun e w'=> ∃ u σ',e= .returned u/\GG B σ' M st tmps w'/\qA σ' M v u)/\
  ∃ fn, P.funcs[f]? = some fn ∧ (fn.name == "runtime.NumGoroutine") = false ∧ fn.body.isNone = false := by
 unfold zFU at hc;split at hc
 all_goals first|contradiction|skip
 case h_5=>rename_i h3 _ _ _;exact (h3 f rfl).elim
 rename_i f' vs' e1;cases e1;split at hc
 case h_2=>cases hc
 rename_i c hcf;split at hc
 case h_2=>cases hc
 rename_i p' q' v' hcr;split at hc
 case h_2=>cases hc
 rename_i hcl;cases hc;rw [yO] at hcl;obtain ⟨fn,hfn⟩:=hF.fn _ _ hcf;have hok:=hF.ok _ _ hcf _ _ hcr;rcases hcl with hcl|hpl
 ·have hview: ∀ {l:List AV} {ds:List Value},l.all AV.clear=true->jL I M l ds->l.map (AV.viewT T st.hp)=l/\jL I [] l ds:=by
   intro l
   induction l with
   | nil=>intro ds _ hr;cases ds with
     | nil=>exact ⟨rfl,trivial⟩
     | cons _ _=>exact hr.elim
   | cons a l ih=>intro ds hh hr;cases ds with
     | nil=>exact hr.elim
     | cons d ds =>
       simp only [qS,zA] at hh;obtain ⟨h1,h2⟩:=ih hh.2 hr.2;obtain ⟨h3,h4⟩:=AV.clear_repT (T:=T) (hp:=st.hp) hh.1 hr.1;exact ⟨by simp [h1,h3],h4,h2⟩
  obtain ⟨h1,h2⟩:=hview hcl hv;rw [h1] at hok;obtain ⟨h3,h4⟩:=hok I vals w h.mem.ag h2;refine ⟨h3,fun hq=>(h4 hq).mono fun e w' ⟨u,σ',e1,e2,e3,e4,e5,e6⟩=>⟨u,σ',e1,h.world e2 e3 e4 e6,e5.nil_any⟩,fn,hfn⟩
 ·have hview: ∀ {l:List AV} {ds:List Value},jL I M l ds->jL (zDh w) [] (l.map (AV.viewT T st.hp)) ds:=by
   intro l
   induction l with
   | nil=>intro ds hr;cases ds with
     | nil=>trivial
     | cons _ _=>exact hr.elim
   | cons a l ih=>intro ds hr;cases ds with
     | nil=>exact hr.elim
     | cons d ds=>exact ⟨AV.viewT_rep h.mem hr.1,ih hr.2⟩
  obtain ⟨h3,h4⟩:=hok (zDh w) vals w zMZ (hview hv);refine ⟨h3,fun hq=>(h4 hq).mono fun e w' ⟨u,σ',e1,e2,e3,e4,e5,e6⟩=>⟨u,I,e1,h.world (Sig.le.refl _) (fun b o e=> ?_) (fun _ _=>rfl) e6,AV.plain_rep hpl e5⟩,fn,hfn⟩;rw [e6.block _ (h.mem.ag.lt e)];exact h.mem.ag _ _ e
end
end Go.Vm
namespace Go.Vm
open Go.RowKit
structure zDU (P:Program) (kt:TypeId) (k:ETy):Prop where
 check: ∀ (w:World) (em:Bool) {I:Sig} {x:k.T} {ds:List Value},jI I k x ds->(Instr.checkKey em 10000 kt (yY k ds)).run P w= .ok () w
 find: ∀ (w:World) {I:Sig} {x:k.T} {ds:List Value},jI I k x ds->∀ es:List MapEntry,(∀ e∈es,∃ (I:Sig) (y:k.T) (dk:List Value),jI I k y dk/\e.key=yY k dk)->
  ((Instr.findKey kt (yY k ds) es).run P w= .ok none w/\∀ e∈es,e.key≠yY k ds)\/∃ j e,(Instr.findKey kt (yY k ds) es).run P w= .ok (some (j,e.val)) w/\es[j]? =some e/\e.key=yY k ds
 stays: ∀ (w:World) {I:Sig} {x:k.T} {ds:List Value},jI I k x ds->(Instr.keyThatStays (yY k ds) (yY k ds)).run P w= .ok (yY k ds) w
 inj: ∀ {I τ:Sig} {x y:k.T} {ds dk:List Value},jI I k x ds->jI τ k y dk->(yY k ds=yY k dk↔x=y)
structure zFK (P:Program) (kt u:TypeId) (k e:ETy):Prop where
 key:zDU P kt k
 zero: ∀ i,P.info? u=some i->i.zero=some (yY e e.zeroVals)
def zOx (P:Program) (T:Tab):Prop:= ∀ t kt u,T.desc t= .map kt u->∀ ki ui k e,T.info kt=some ki->T.info u=some ui->ki.ety=some k->ui.ety=some e->zFK P kt u k e
section key
variable {P:Program} {kt:TypeId}
theorem zDU.wide {k:ETy} (hl:WideMaps.KeyLaw P kt) (hkey: ∀ {I:Sig} {x:k.T} {ds:List Value},jI I k x ds->∃ l,keyOf P kt (yY k ds)=some l)
 (hinj: ∀ {I τ:Sig} {x y:k.T} {ds dk:List Value},jI I k x ds->jI τ k y dk->(yY k ds=yY k dk↔x=y)):zDU P kt k where
 check:=fun w em _ _ _ h=>let ⟨_,e⟩:=hkey h;hl.check w em e
 find:=fun w _ _ _ h es hes=>by
  obtain ⟨lx,hx⟩:=hkey h
  exact hl.find w hx es fun e he=>by
   obtain ⟨I,y,dk,h1,h2⟩:=hes e he;rw [h2];exact hkey h1
 stays:=fun w _ _ _ h=>let ⟨_,e⟩:=hkey h;hl.stays w e
 inj:=hinj
theorem zTO {n:Int} (h:InK .i64 n):(Lit.int .i64 n).wf=true:=by
 obtain ⟨h1,h2⟩:=InK.i64.1 h;simp only [Lit.wf,zA,zF];exact ⟨h1,h2⟩
theorem zNE {m:Nat} {u:TypeId} (hu:P.underlying kt=some (.array m u)) (he:P.underlying u=some (.int .i64)) (hc:P.cellsOf kt=m) (hce:P.cellsOf u=1) (hk:P.keyType kt=true) (hsz:0<P.types.size)
 {ns:List Int} (hm:ns.length=m) (hn: ∀ n∈ns,InK .i64 n): ∃ l,keyOf P kt (.agg (ns.map fun n=>Value.int .i64 n).toArray)=some l:=by
 obtain ⟨d,hd⟩: ∃ d,P.types.size=d+1:=⟨P.types.size - 1,by omega⟩;unfold keyOf;rw [hu];simp only [hk,Value.formed,hu,Bool.true_and,hc];rw [if_pos (by simp [hm])];have hcells:(Value.agg (ns.map fun n=>Value.int .i64 n).toArray).cells.toList=ns.map fun n=>Value.int .i64 n:=by simp [Value.cells]
 rw [hcells,hd]
 have hone: ∀ i∈List.range m,P.keyLits (d+1) u (((ns.map fun n=>Value.int .i64 n).drop (i*P.cellsOf u)).take (P.cellsOf u))=some [.int .i64 (ns.getD i 0)]:=by
  intro i hi;have hi:=zW.1 hi;have hlt:i<ns.length:=by omega
  rw [hce,Nat.mul_one]
  have e1:((ns.map fun n=>Value.int .i64 n).drop i).take 1=[.int .i64 (ns[i])]:=by
   rw [List.drop_eq_getElem_cons (by simpa using hlt)];simp
  have e2:ns.getD i 0=ns[i]:=by simp [zH,hlt]
  rw [e1,e2];simp only [Program.keyLits,he];simp [zTO (hn _ (y6 hlt))]
 have hmap:(List.range m).mapM (fun i=>P.keyLits (d+1) u (((ns.map fun n=>Value.int .i64 n).drop (i*P.cellsOf u)).take (P.cellsOf u)))=some ((List.range m).map fun i=>[Lit.int .i64 (ns.getD i 0)]):=by
  generalize List.range m=l at hone
  induction l with
  | nil=>rfl
  | cons x l ih =>
    rw [List.mapM_cons,hone x (by simp)];simp only [Option.bind_eq_bind,Option.bind_some];rw [ih fun i hi=>hone i (by simp [hi])];rfl
 have htop:P.keyLits (d+1+1) kt (ns.map fun n=>Value.int .i64 n)=some ((List.range m).map fun i=>[Lit.int .i64 (ns.getD i 0)]).flatten:=by
  unfold Program.keyLits;simp only [hu];rw [if_pos (by simp [hc,hm]),hmap];rfl
 rw [htop];exact ⟨_,rfl⟩
theorem zDU.arr2 (hl:WideMaps.KeyLaw P kt) {u:TypeId} (hu:P.underlying kt=some (.array 2 u)) (he:P.underlying u=some (.int .i64)) (hc:P.cellsOf kt=2) (hce:P.cellsOf u=1) (hk:P.keyType kt=true) (hsz:0<P.types.size):zDU P kt .arr2:=by
 refine zDU.wide hl (fun {I x ds} h=> ?_) (fun {I τ x y ds dk} h h'=> ?_)
 ·obtain ⟨rfl,h1,h2⟩:=h;exact zNE hu he hc hce hk hsz (ns:=[x.1,x.2]) rfl (by simp [h1,h2])
 ·obtain ⟨rfl,_⟩:=h;obtain ⟨rfl,_⟩:=h';obtain ⟨a,b⟩:=x;obtain ⟨c,d⟩:=y;simp [yY]
theorem zDU.arr3 (hl:WideMaps.KeyLaw P kt) {u:TypeId} (hu:P.underlying kt=some (.array 3 u)) (he:P.underlying u=some (.int .i64)) (hc:P.cellsOf kt=3) (hce:P.cellsOf u=1) (hk:P.keyType kt=true) (hsz:0<P.types.size):zDU P kt .arr3:=by
 refine zDU.wide hl (fun {I x ds} h=> ?_) (fun {I τ x y ds dk} h h'=> ?_)
 ·obtain ⟨rfl,h1,h2,h3⟩:=h;exact zNE hu he hc hce hk hsz (ns:=[x.1,x.2.1,x.2.2]) rfl (by simp [h1,h2,h3])
 ·obtain ⟨rfl,_⟩:=h;obtain ⟨rfl,_⟩:=h';obtain ⟨a,b,e⟩:=x;obtain ⟨c,d,f⟩:=y;simp [yY]
theorem zDU.int {q:IntKind} (hu:P.underlying kt=some (.int q)):zDU P kt (.int q) where
 check:=fun w em _ x _ h=>by
  obtain ⟨rfl,_⟩:=h;exact MapKept.run_checkKey hu (show MapKept.IsKey _ _ by simp [MapKept.IsKey,yY]) em 9999
 find:=fun w I x ds h es hes=>by
  obtain ⟨rfl,_⟩:=h;have hk:MapKept.IsKey (.int q) (yY (.int q) [.int q x]):=by simp [MapKept.IsKey,yY]
  rcases MapKept.findNow_spec hk es 0 (fun e he=>by
   obtain ⟨_,y,dk,⟨rfl,_⟩,h2⟩:=hes e he
   rw [h2];simp [MapKept.IsKey,yY]) with ⟨h1,h2⟩|⟨j,e,h1,h2,h3⟩
  ·exact .inl ⟨MapKept.run_findKey hu h1,h2⟩
  ·exact .inr ⟨j,e,by simpa using MapKept.run_findKey (w:=w) hu h1,h2,h3⟩
 stays:=fun w I x ds h=>by
  obtain ⟨rfl,_⟩:=h;simp [Instr.keyThatStays,yY,Instr.sameBits]
 inj:=fun {I τ x y ds dk} h h'=>by
  obtain ⟨rfl,_⟩:=h;obtain ⟨rfl,_⟩:=h';simp [yY]
end key
section
variable {P:Program} {B:Base} {w:World} {I:Sig} {M:yN} {st:St} {tmps:Array Value} {T:Tab} {hp:zAG}
def MapAt (I:Sig) (k v:ETy) (m:List (k.T×v.T)) (es:Array MapEntry):Prop :=
 es.size=m.length/\∀ (i:Nat) (x:k.T×v.T),m[i]? =some x->∃ (en:MapEntry) (dk dv:List Value),es[i]? =some en/\jI I k x.1 dk/\en.key=yY k dk/\jI I v x.2 dv/\en.val=yY v dv
theorem zTI (h:Mem I M hp w) {a:AS} {vx:Value} {mv:z3G} (ha:y7 I M a vx) (e:zRC hp a=some mv) :
 ∃ r,vx= .map r/\(mv.m.map (·.1)).Nodup/\(r=none->mv.m=[])/\∀ b,r=some b->∃ es clock,w.heap[b]? =some (.map es clock)/\MapAt I mv.k mv.v mv.m es:=by
 unfold zRC at e;split at e
 ·cases e;obtain ⟨r,e1,h1,h2,h3⟩:=ha;obtain rfl:=(List.cons.inj e1).1
  exact ⟨r,rfl,h1,h2,fun b hb=>by
   obtain ⟨es,clock,q1,q2,q3⟩:=h3 b hb;obtain ⟨o',q4,q5⟩:=h.ag _ _ q1;obtain rfl:=q5.map
   exact ⟨es,clock,q4,q2.1,q3⟩⟩
 ·split at e
  ·rename_i hid;cases e;obtain ⟨h0,p,es,clock,q1,q2,q3,q4⟩:=h.obp hid;obtain ⟨p',hp',rfl,_⟩:=ha;rw [q1] at hp';cases hp';exact ⟨_,rfl,h0,(fun e=>by cases e),fun b hb=>by cases hb;exact ⟨es,clock,q2,q3.1,q4⟩⟩
  ·cases e
 ·cases e
section assoc
variable {k:ETy} {V:Type}
theorem zC8 {q:k.T} : ∀ {m:List (k.T×V)},(∀ p∈m,p.1≠q)->zA3 k m q=none/\∀ v,zAg k m q v=m++[(q,v)]
 | [],_=>⟨rfl,fun _=>rfl⟩
 | (x,y)::r,h=>by
   obtain ⟨h1,h2⟩:=zC8 (m:=r) fun p hp=>h p (zM _ hp);have hne:x≠q:=h (x,y) (by simp);constructor
   ·simp only [zA3];split
    ·rename_i e _;exact (hne e).elim
    ·exact h1
   ·intro v;simp only [zAg];split
    ·rename_i e _;exact (hne e).elim
    ·rw [h2];rfl
theorem zDw {q:k.T} {y:V} : ∀ {m:List (k.T×V)} {j:Nat},(m.map (·.1)).Nodup->m[j]? =some (q,y)->zA3 k m q=some y/\∀ v,zAg k m q v=m.set j (q,v)
 | [],j,_,h=>by simp at h
 | (x,z)::r,0,hn,h=>by
   simp only [zJI,zAV,zB1] at h;obtain ⟨rfl,rfl⟩:=h;constructor
   ·simp only [zA3];split
    ·rfl
    ·rename_i e _;exact (e rfl).elim
   ·intro v;simp only [zAg];split
    ·rfl
    ·rename_i e _;exact (e rfl).elim
 | (x,z)::r,j+1,hn,h=>by
   simp only [zJH] at h;simp only [jV,yQ] at hn
   have hne:x≠q:=by
    rintro rfl;exact hn.1 (zS.2 ⟨(x,y),yP h,rfl⟩)
   obtain ⟨h1,h2⟩:=zDw hn.2 h;constructor
   ·simp only [zA3];split
    ·rename_i e _;exact (hne e).elim
    ·exact h1
   ·intro v;simp only [zAg];split
    ·rename_i e _;exact (hne e).elim
    ·rw [h2];rfl
end assoc
theorem zDq {kt:TypeId} {k v:ETy} (hk:zDU P kt k) {m:List (k.T×v.T)} {es:Array MapEntry} (hm:MapAt I k v m es) {q:k.T} {ds:List Value} (hq:jI I k q ds) :
 ((Instr.findKey kt (yY k ds) es.toList).run P w= .ok none w/\∀ p∈m,p.1≠q)\/
 ∃ j en y dv,(Instr.findKey kt (yY k ds) es.toList).run P w= .ok (some (j,en.val)) w/\es[j]? =some en/\en.key=yY k ds/\m[j]? =some (q,y)/\jI I v y dv/\en.val=yY v dv:=by
 obtain ⟨hs,hm⟩:=hm
 have back: ∀ (i:Nat) (en:MapEntry),es[i]? =some en->∃ (x:k.T×v.T) (dk dv:List Value),m[i]? =some x/\jI I k x.1 dk/\en.key=yY k dk/\jI I v x.2 dv/\en.val=yY v dv:=by
  intro i en hi;have hlt:i<m.length:=by rw [<- hs];exact (zR.1 hi).1
  obtain ⟨en',dk,dv,e1,e2,e3,e4,e5⟩:=hm i m[i] (zB hlt);rw [hi] at e1;cases e1;exact ⟨_,dk,dv,zB hlt,e2,e3,e4,e5⟩
 rcases hk.find w hq es.toList (fun e he=>by
  obtain ⟨i,hi,rfl⟩:=yG.1 he;obtain ⟨x,dk,dv,_,e2,e3,_⟩:=back i _ (by rw [<- zJ];exact zB hi)
  exact ⟨I,x.1,dk,e2,e3⟩) with ⟨h1,h2⟩|⟨j,en,h1,h2,h3⟩
 ·refine .inl ⟨h1,fun p hp e=> ?_⟩;obtain ⟨i,hi,rfl⟩:=yG.1 hp;obtain ⟨en,dk,dv,e1,e2,e3,_⟩:=hm i _ (zB hi);refine h2 en (yP (by rw [zJ];exact e1)) ?_;rw [e3];exact (hk.inj e2 hq).2 e
 ·rw [zJ] at h2;obtain ⟨x,dk,dv,e1,e2,e3,e4,e5⟩:=back j en h2;rw [h3] at e3;have:=(hk.inj hq e2).1 e3;obtain ⟨x1,x2⟩:=x;simp only at this;subst this;exact .inr ⟨j,en,x2,dv,h1,h2,h3,e1,e4,e5⟩
theorem zE2 {v:ETy} {dv:List Value} (hl:dv.length=v.size) (e:v.isAgg=true):yY v dv= .agg dv.toArray:=by
 cases v<;>first|rfl|(simp [ETy.isAgg] at e;done)|skip
 obtain rfl:dv=[]:=List.eq_nil_of_length_eq_zero hl;rfl
theorem zJW {v:ETy} {d:Value} (e:v.isAgg=false):yY v [d]=d:=by
 cases v<;>first|rfl|(simp [ETy.isAgg] at e;done)
theorem zDx {k:ETy} {a:AV} {v:Value} {m:List AS} (ha:qA I M a v) (hf:a.flat=some m) (hs:a.isAgg=k.isAgg) (hl:v.cells.toList.length=k.size):v=yY k v.cells.toList:=by
 cases a with
 | tup l=>cases hf
 | agg l =>
   obtain ⟨ds,rfl,_⟩:=ha;have:k.isAgg=true:=hs.symm;show Value.agg ds.toArray=yY k ds.toArray.toList;rw [List.toList_toArray];replace hl:ds.length=k.size:=by simpa [Value.cells] using hl
   exact (zE2 hl this).symm
 | s a =>
   have hk:k.isAgg=false:=hs.symm
   have hc:v.cells= #[v]:=by
    have:=zBW ha hf
    have hm:m=[a]:=by
     unfold AV.flat at hf;split at hf<;>first|contradiction|(cases hf;rename_i h;cases h;rfl)|(rename_i h;cases h)
    subst hm;have hx:y7 I M a v:=ha;cases a with
    | int=>obtain ⟨rfl,_⟩:=hx;rfl
    | bool=>obtain rfl:=hx;rfl
    | val u=>obtain ⟨rfl,hu⟩:=hx;cases v<;>first|rfl|exact (hu _ rfl).elim
    | sl=>obtain ⟨a,cap,e,_⟩:=hx;obtain rfl:=(List.cons.inj e).1;rfl
    | mp=>obtain ⟨a,e,_⟩:=hx;obtain rfl:=(List.cons.inj e).1;rfl
    | pt e o =>
      cases o with
      | none=>have hx:[v]=[.pointer none]:=hx;obtain rfl:=(List.cons.inj hx).1;rfl
      | some x=>obtain ⟨b,off,d,e,_⟩:=hx;obtain rfl:=(List.cons.inj e).1;rfl
    | ip=>obtain ⟨b,o,d,rfl,_⟩:=hx;rfl
    | ipi=>obtain ⟨b,o,d,rfl,_⟩:=hx;rfl
    | own id s n =>
      simp only [y7] at hx;cases hβ:M[id]? with
      | none=>simp [hβ] at hx
      | some q =>
        cases q with
        | none=>simp only [hβ] at hx;obtain ⟨⟨_,rfl⟩,_⟩:=hx;rfl
        | some p=>simp only [hβ] at hx;obtain ⟨_,_,rfl,_⟩:=hx;rfl
    | ptr=>obtain ⟨p,_,rfl,_⟩:=hx;rfl
    | pti=>obtain ⟨p,_,rfl,_⟩:=hx;rfl
    | omp=>obtain ⟨p,_,rfl,_⟩:=hx;rfl
    | arr=>obtain ⟨p,_,rfl,_⟩:=hx;rfl
    | clo=>obtain ⟨_,rfl,_⟩:=hx;rfl
    | nq=>obtain ⟨_,rfl,_⟩:=hx;rfl
    | emp=>obtain ⟨_,rfl⟩:=hx;rfl
    | junk=>simp [AV.flat] at hf
   rw [hc];cases k<;>first|rfl|(simp [ETy.isAgg] at hk)
theorem zB2 {o:Option ETy} {e:ETy} (h:zM6 o e=true):o=some e:=by
 unfold zM6 at h;split at h
 ·rw [of_decide_eq_true h]
 ·cases h
theorem zQ1 (hT:zAZ P T) (hO:zHB T) (hE:zGx T) (hM:zOx P T) (h:Mem I M hp w) {t:TypeId} {x key:AV} {vx vk:Value} {commaOk:Bool} (hx:qA I M x vx) (hk:qA I M key vk) :
 Snd P I M w (zGW T t hp x key commaOk) (Instr.lookup t vx vk commaOk):=by
 unfold zGW;split
 ·rename_i a kc kt u hkc hd;split
  ·rename_i ki ui mv hki hui hmv;split
   ·rename_i q hchk hdec;simp only [zA,beq_iff_eq] at hchk;obtain ⟨⟨⟨c1,c2⟩,c3⟩,c4⟩:=hchk;have c1:=zB2 c1;have c2:=zB2 c2;have hMO:=hM _ _ _ hd _ _ _ _ hki hui c1 c2;obtain ⟨r,rfl,hn,hnil,hat⟩:=zTI h hx hmv;have hkey:=ETy.dec_sound hdec (zBW hk hkc);have hkv:=zDx hk hkc c3 hkey.length;have hdesc:=hT.desc (w:=w) hd (by simp);obtain ⟨i,z,hi,_,_,hz,_⟩:=(hT _ _ hui).get;have hz':=hMO.zero i hi;rw [hz] at hz'
    have hzv:(zeroValue u).run P w= .ok z w:=by simp [zeroValue,typeInfo,hi,hz]
    -- the value that is found
    have fin: ∀ {y:mv.v.T} {dv:List Value} {ok:Bool},jI I mv.v y dv->(zA3 mv.k mv.m q).getD mv.v.dflt=y->(zA3 mv.k mv.m q).isSome=ok->
     (Instr.lookup t (.map r) vk commaOk).run P w= .ok (if commaOk then .tuple #[yY mv.v dv,.bool ok] else yY mv.v dv) w->
     Snd P I M w (match commaOk with
      | true=>some (none,none,.tup [part (zA6 ui.desc) (mv.v.cells ((zA3 mv.k mv.m q).getD mv.v.dflt)) 0 ui.size,.s (.bool (zA3 mv.k mv.m q).isSome)])
      | false=>some (none,none,part (zA6 ui.desc) (mv.v.cells ((zA3 mv.k mv.m q).getD mv.v.dflt)) 0 ui.size)) (Instr.lookup t (.map r) vk commaOk):=by
     intro y dv ok hy hg ho hrun;rw [hg,ho];have hl:=hy.length;have hsz:=(hE _ _ hui _ c2).2
     have hpart:qA I M (part (zA6 ui.desc) (mv.v.cells y) 0 ui.size) (yY mv.v dv):=by
      have hce:=hy.cells (M:=M);refine zKW hce (by have:=hce.length;omega) (hO _ _ hui) (fun e=> ?_) (fun e=> ?_)
      ·rw [c4] at e;rw [j5,jR (by omega)];exact zE2 hl e
      ·have h1:=hO _ _ hui e;rw [c4] at e;rw [j5,jR (by omega)];rw [h1] at hsz
       match dv,hl with
       | [d],_=>rw [zJW e]
       | [],hl=>simp at hl;omega
       | _::_::_,hl=>simp at hl;omega
     cases commaOk with
     | true=>exact Snd.mk trivial fun _=>⟨_,hrun,_,rfl,hpart,rfl,trivial⟩
     | false=>exact Snd.mk trivial fun _=>⟨_,hrun,hpart⟩
    cases r with
    | none =>
      have hnil:=hnil rfl;refine fin (y:=mv.v.dflt) (dv:=mv.v.zeroVals) (ok:=false) (zCC _) (by rw [hnil];rfl) (by rw [hnil];rfl) ?_;have hfind:=hMO.key.find w hkey [] (by simp);rw [<- hkv] at hfind
      have hfind:(Instr.findKey kt vk []).run P w= .ok none w:=by
       rcases hfind with ⟨h1,_⟩|⟨j,e,_,h2,_⟩
       ·exact h1
       ·simp at h2
      have hchk:=hMO.key.check w true hkey;rw [<- hkv] at hchk;simp only [Instr.lookup,zN,hdesc,zL,qD];simp [hchk,hfind,hzv,Option.some.inj hz']
    | some b =>
      obtain ⟨es,clock,hb,hmat⟩:=hat b rfl;have hget:=MapKept.run_getObj_map (P:=P) hb;have hchk:=hMO.key.check w es.isEmpty hkey;have hf:=zDq (w:=w) hMO.key hmat hkey;rw [<- hkv] at hchk hf;rcases hf with ⟨h1,h2⟩|⟨j,en,y,dv,h1,h2,h3,h4,h5,h6⟩
      ·obtain ⟨g1,_⟩:=zC8 h2;refine fin (y:=mv.v.dflt) (dv:=mv.v.zeroVals) (ok:=false) (zCC _) (by rw [g1];rfl) (by rw [g1];rfl) ?_;simp only [Instr.lookup,zN,hdesc,zL,qD,hget];simp [hchk,h1,hzv,Option.some.inj hz']
      ·obtain ⟨g1,_⟩:=zDw hn h4;refine fin (y:=y) (dv:=dv) (ok:=true) h5 (by rw [g1];rfl) (by rw [g1];rfl) ?_;simp only [Instr.lookup,zN,hdesc,zL,qD,hget];simp [hchk,h1,h6]
   ·exact Snd.none
  ·exact Snd.none
 ·exact Snd.none
theorem zRB (h:GG B I M st tmps w) {st':St} {o:Oper} {ρ:Operand->Value} (hd:zBM o.dst tmps) {t:TypeId} (ho:o.op= .makeMap t none) {p q:Option Prop} (he:zFs T t st o.dst=some (p,q,st')) :
 Opt p/\(Opt q->zJJ P B o ρ st' tmps w):=by
 unfold zFs at he;split at he
 ·split at he
  ·split at he
   ·rename_i ek e _ _;cases he;refine ⟨trivial,fun _=>⟨.map (some w.heap.size),w.alloc (.map #[] 0),I,M++[some ⟨w.heap.size,0,0,0,0⟩],.inl ?_,?_⟩⟩
    ·simp [execOp,ho,Instr.makeMap]
    ·have hlast:(M++[some ⟨w.heap.size,0,0,0,0⟩])[st.next]? =some (some (⟨w.heap.size,0,0,0,0⟩:Bk)):=by rw [<- h.len];simp
     refine h.fresh hd (fun k hk=>alloc_old w _ k hk) (Below.alloc' w _ h.bel.size) (fun p hp=>by cases hp;rfl) ⟨by simp,_,#[],0,hlast,(MapKept.heap_alloc w _).1,rfl,fun i x hx=>by simp at hx,⟨by simp,by simp⟩,by simp [MapKept.Stamped]⟩ ⟨_,hlast,rfl,rfl⟩
   ·rename_i ek ev _ _ _;cases he;refine ⟨trivial,fun _=>⟨.map (some w.heap.size),w.alloc (.map #[] 0),I,M++[some ⟨w.heap.size,0,0,0,0⟩],.inl ?_,?_⟩⟩
    ·simp [execOp,ho,Instr.makeMap]
    ·have hlast:(M++[some ⟨w.heap.size,0,0,0,0⟩])[st.next]? =some (some (⟨w.heap.size,0,0,0,0⟩:Bk)):=by rw [<- h.len];simp
     refine h.fresh hd (fun k hk=>alloc_old w _ k hk) (Below.alloc' w _ h.bel.size) (fun p hp=>by cases hp;rfl) ⟨by simp,_,#[],0,hlast,(MapKept.heap_alloc w _).1,⟨rfl,MapKept.stamped_empty 0⟩,fun i x hx=>by simp at hx⟩ ⟨_,hlast,rfl,rfl⟩
   ·cases he
  ·cases he
 ·cases he
theorem zE9 {k:ETy} {V:Type} {m:List (k.T×V)} {q:k.T} (v:V) (hn:(m.map (·.1)).Nodup):((zAg k m q v).map (·.1)).Nodup:=by
 by_cases h: ∃ y,(q,y)∈m
 ·obtain ⟨y,hy⟩:=h;obtain ⟨j,hj,e⟩:=yG.1 hy;rw [(zDw hn (by rw [zB hj,e])).2 v,List.map_set]
  have:(m.map (·.1)).set j q=m.map (·.1):=by
   apply List.ext_getElem (by simp);intro i h1 h2;rw [List.getElem_set];split
   ·rename_i e';subst e';simp [e]
   ·rfl
  rw [this];exact hn
 ·have hne: ∀ p∈m,p.1≠q:=fun p hp e=>h ⟨p.2,by rw [<- e];exact hp⟩;rw [(zC8 hne).2 v,zA8];simp only [jV,List.map_nil];rw [List.nodup_append];refine ⟨hn,by simp,fun a ha b hb e=> ?_⟩;obtain ⟨p,hp,rfl⟩:=zS.1 ha;simp only [zD] at hb;exact hne p hp (e.trans hb)
theorem zMa (hT:zAZ P T) (hM:zOx P T) (h:GG B I M st tmps w) {st':St} {o:Oper} {ρ:Operand->Value} (hd:zBM o.dst tmps) {t:TypeId} {x y z:Operand} (ho:o.op= .mapUpdate t x y z\/o.op= .insert t x y z) {a b c:AV} {p q:Option Prop}
 (ha:qA I M a (ρ x)) (hb:qA I M b (ρ y)) (hc:qA I M c (ρ z)) (he:zE6 T t a b c st o.dst=some (p,q,st')):Opt p/\(Opt q->zJJ P B o ρ st' tmps w):=by
 unfold zE6 at he;split at he
 ·rename_i id kc vc kt u hkc hvc hdc;split at he
  ·rename_i ki ui k e m hki hui hid;split at he
   ·rename_i kk vv hchk hdk hdv;cases he;refine ⟨trivial,fun _=> ?_⟩;simp only [zA,beq_iff_eq] at hchk;obtain ⟨⟨⟨c1,c2⟩,c3⟩,c4⟩:=hchk;have c1:=zB2 c1;have c2:=zB2 c2;have hMO:=hM _ _ _ hdc _ _ _ _ hki hui c1 c2;have hkey:=ETy.dec_sound hdk (zBW hb hkc);have hval:=ETy.dec_sound hdv (zBW hc hvc);have hkv:=zDx hb hkc c3 hkey.length;have hvv:=zDx hc hvc c4 hval.length;obtain ⟨hn,pl,es,clock,q1,q2,q3⟩:=h.mem.ob _ _ hid
    obtain ⟨pl',q1',hx⟩:=ha;rw [q1] at q1';cases q1';have hmat:MapAt I k e m es:=⟨q3.1.1,q3.2⟩;have hS:MapKept.Stamped es clock:=q3.1.2;have hdesc:=hT.desc (w:=w) hdc (by simp);have runGet:=MapKept.run_getObj_map (P:=P) q2;have hck:=hMO.key.check w false hkey;have hf:=zDq (w:=w) hMO.key hmat hkey;have hstay:=hMO.key.stays w hkey;have runSet: ∀ o',(setObj pl.b o').run P w= .ok () {w with heap:=w.heap.setIfInBounds pl.b o'} :=fun o'=>MapKept.run_setObj_map o' q2
    rw [<- hkv] at hck hf hstay;have hsep:=h.sep _ _ _ hid q1
    have fin: ∀ {es':Array MapEntry} {clock':Nat},(Instr.mapUpdate t (ρ x) (ρ y) (ρ z)).run P w= .ok () {w with heap:=w.heap.setIfInBounds pl.b (.map es' clock')}->MapAt I k e (zAg k m kk vv) es'->MapKept.Stamped es' clock'->
     zJJ P B o ρ (({st with hp:=zBZ st.hp id (.map k e (zAg k m kk vv))} :St).put o.dst .undef) tmps w:=by
     intro es' clock' hrun hm' hS';obtain ⟨g1,g2⟩:=MapKept.heap_set (o':= .map es' clock') q2;have hob:zAt I M {w with heap:=w.heap.setIfInBounds pl.b (.map es' clock')} id (.map k e (zAg k m kk vv)):=⟨zE9 vv hn,pl,es',clock',q1,g1,⟨hm'.1,hS'⟩,hm'.2⟩;have hbl:Below B.w.heap.size w {w with heap:=w.heap.setIfInBounds pl.b (.map es' clock')} :=⟨⟨rfl,rfl,rfl,by simp,fun k hk=>g2 k (by have:=hsep.2.1;omega)⟩,zI _⟩
     exact ⟨undef,_,I,M,.inr ⟨by rcases ho with ho|ho<;>simp [execOp,ho,hrun],rfl⟩,(h.turn hid q1 (fun k hk=>g2 k hk) hbl hob).put hd qA.undef⟩
    obtain ⟨hs,hmat'⟩:=hmat;rcases hf with ⟨h1,h2⟩|⟨j,en,y',dv,h1,h2,h3,h4,h5,h6⟩
    ·refine fin (es':=es.push {key:=ρ y,val:=ρ z,born:=clock}) (clock':=clock+1) ?_ ?_ (MapKept.stamped_push hS fun en hen he=> ?_)
     ·simp only [hx,Instr.mapUpdate,zN,hdesc,zL,runGet,hck,h1];exact runSet _
     ·rw [(zC8 h2).2 vv];refine ⟨by simp [hs],fun i x hi=> ?_⟩;rcases Nat.lt_or_ge i m.length with hlt|hge
      ·rw [yF hlt] at hi;obtain ⟨en,dk,dv,e1,r⟩:=hmat' i x hi;exact ⟨en,dk,dv,by rw [Array.getElem?_push,if_neg (by omega)];exact e1,r⟩
      ·rw [qY hge] at hi
       have:i=m.length:=by
        have:=(zG.1 hi).1;simp at this;omega
       subst this;simp only [Nat.sub_self,zJI,zAV] at hi;subst hi;exact ⟨_,_,_,by rw [Array.getElem?_push,if_pos hs.symm],hkey,hkv,hval,hvv⟩
     ·obtain ⟨i,hi,rfl⟩:=yG.1 hen;have hi':i<m.length:=by rw [<- hs];simpa using hi
      obtain ⟨en',dk',dv',e1,e2,e3,_⟩:=hmat' i _ (zB hi');have:es.toList[i]? =some en':=by rw [zJ];exact e1
      rw [zB hi] at this;cases this;rw [he,hkv] at e3;exact h2 _ (y6 hi') ((hMO.key.inj hkey e2).1 e3).symm
    ·have hkeep:((es[j]?).map (·.key)).getD (ρ y)=ρ y:=by rw [h2];exact h3
     refine fin (es':=es.modify j fun e=> {e with key:=ρ y,val:=ρ z}) (clock':=clock) ?_ ?_ (MapKept.stamped_modify hS j _ (fun _ _=>rfl) fun e0 _ he=>by rw [h2] at he;cases he;exact h3.symm)
     ·simp only [hx,Instr.mapUpdate,zN,hdesc,zL,runGet,hck,h1,hkeep,hstay];exact runSet _
     ·rw [(zDw hn h4).2 vv];refine ⟨by simp [hs],fun i x hi=> ?_⟩;rw [Array.getElem?_modify];rw [qI] at hi;split
      ·rename_i e';subst e';simp only [if_true] at hi;split at hi
       ·cases hi;exact ⟨_,_,_,by rw [h2];rfl,hkey,hkv,hval,hvv⟩
       ·cases hi
      ·rename_i e';rw [if_neg e'] at hi;exact hmat' i x hi
   ·cases he
  ·cases he
 ·cases he
end
end Go.Vm
namespace Go.Vm
open Go.RowKit
def zCF (I:Sig) (base:Nat) (w:World):List Ob->yN->Prop
 | [],[]=>True
 | ob::r,q::s=>(∃ e u xs,ob= .row e u xs)/\zAt I [q] w 0 ob/\(∀ p,q=some p->I p.b=none/\base<=p.b/\∀ q'∈s,∀ p',q'=some p'->p'.b≠p.b)/\zCF I base w r s
 | _,_=>False
def zCc (P:Program) (f:FuncId) (args:List AV) (r:zLe):Prop :=
 ∀ (I:Sig) (vals:List Value) (w:World),Ag I w->jL I [] args vals->
   Opt r.1/\(Opt r.2.1->Calls P f vals.toArray w fun e w'=> ∃ v σ' β',e= .returned v/\I.le σ'/\Ag σ' w'/\
    (∀ b,b<w.heap.size->σ' b=I b)/\qA σ' β' r.2.2.1 v/\zCF σ' w.heap.size w' r.2.2.2 β'/\Below w.heap.size w w')
def zIx (P:Program) (f:FuncId) (h:List AV->St->(AV->St->Prop)->Prop):Prop :=
 ∀ (B:Base) (I:Sig) (M:yN) (st:St) (tmps:Array Value) (w:World) (args:List AV) (vals:List Value) (K:AV->St->Prop),GG B I M st tmps w->jL I M args vals->h args st K->
   Calls P f vals.toArray w fun e w'=> ∃ v av st' σ' β',e= .returned v/\K av st'/\GG B σ' β' st' tmps w'/\qA σ' β' av v
structure zZH (P:Program) (T:Tab):Prop where
 ok: ∀ f c,zEt T.fr f=some (.res c)->∀ args r,c args=some r->zCc P f args r
 run: ∀ f h,zEt T.fr f=some (.run h)->zIx P f h
 fn : ∀ f c, zEt T.fr f = some c → ∃ fn, P.funcs[f]? = some fn ∧ (fn.name == "runtime.NumGoroutine") = false ∧ fn.body.isNone = false
section
variable {P:Program} {B:Base} {w:World} {I:Sig} {M:yN} {st:St} {tmps:Array Value} {T:Tab} {hp:zAG}
theorem zAt.move {γ:yN} {i j:Nat} {e:ETy} {u:TypeId} {xs:List e.T} (h:zAt I M w i (.row e u xs)) (he:M[i]? =γ[j]?):zAt I γ w j (.row e u xs):=by
 obtain ⟨h0,h⟩:=h;refine ⟨h0,?_⟩;rw [<- he];exact h
theorem GG.pushOne (h:GG B I M st tmps w) {e:ETy} {u:TypeId} {xs:List e.T} {q:Option Bk} (ho:zAt I [q] w 0 (.row e u xs))
 (hs: ∀ p,q=some p->I p.b=none/\B.w.heap.size<=p.b/\∀ id ob p',hget st.hp id=some ob->M[id]? =some (some p')->p'.b≠p.b) :
 GG B I (M++[q]) {st with hp:=(st.next,.row e u xs)::st.hp,next:=st.next+1} tmps w:=by
 have hlast:(M++[q])[st.next]? =some q:=by rw [<- h.len];simp
 have hold: ∀ {id:Nat},id<st.next->(M++[q])[id]? =M[id]? :=fun hi=>by rw [yF];rw [h.len];exact hi
 refine ⟨⟨h.mem.ag,fun id ob' hi=> ?_⟩,fun t=>(h.env t).more q,by simp [h.len],fun id ob' p hi hp=> ?_,h.bel,h.grew⟩
 ·simp only [yB] at hi;split at hi
  ·rename_i e;subst e;cases hi;exact ho.move (by rw [hlast];rfl)
  ·exact (h.mem.ob _ _ hi).keep q (fun p hp=>rfl) fun _ _ _=>rfl
 ·simp only [yB] at hi;split at hi
  ·rename_i e;subst e;rw [hlast] at hp;have hq:=Option.some.inj hp;obtain ⟨s1,s2,s3⟩:=hs p hq;refine ⟨s1,s2,fun id' ob'' p' hne hi' hp'=> ?_⟩;simp only [yB] at hi';rw [if_neg (Ne.symm hne)] at hi';have hlt:=h.id_lt hi';rw [hold hlt] at hp';exact s3 _ _ _ hi' hp'
  ·rename_i hne;have hlt:=h.id_lt hi;rw [hold hlt] at hp;obtain ⟨s1,s2,s3⟩:=h.sep _ _ _ hi hp;refine ⟨s1,s2,fun id' ob'' p' hne' hi' hp'=> ?_⟩;simp only [yB] at hi';split at hi'
   ·rename_i e;subst e;rw [hlast] at hp';exact fun e=>(hs p' (Option.some.inj hp')).2.2 _ _ _ hi hp e.symm
   ·have hlt':=h.id_lt hi';rw [hold hlt'] at hp';exact s3 _ _ _ hne' hi' hp'
theorem GG.push {base:Nat} (hb:B.w.heap.size<=base): ∀ {obs:List Ob} {qs:yN} {st:St} {M:yN},GG B I M st tmps w->zCF I base w obs qs->
 (∀ id ob p,hget st.hp id=some ob->M[id]? =some (some p)->∀ q∈qs,∀ p',q=some p'->p.b≠p'.b)->GG B I (M++qs) (zHe st obs) tmps w
 | [],[],st,M,h,_,_=>by simpa [zHe] using h
 | ob::r,q::s,st,M,h,hf,hs=>by
   obtain ⟨⟨e,u,xs,rfl⟩,h1,h2,h3⟩:=hf;have g:=h.pushOne h1 fun p hp=>⟨(h2 p hp).1,qT hb (h2 p hp).2.1,fun id ob p' hi hp'=>hs id ob p' hi hp' q (by simp) p hp⟩;have hlast:(M++[q])[st.next]? =some q:=by rw [<- h.len];simp
   have:=GG.push hb g h3 fun id ob p hi hp q' hq' p' hp'=>by
    simp only [yB] at hi;split at hi
    ·rename_i e;subst e;rw [hlast] at hp;exact fun e=>(h2 p (Option.some.inj hp)).2.2 q' hq' p' hp' e.symm
    ·have hlt:=h.id_lt hi;rw [yF (by rw [h.len];exact hlt)] at hp;exact hs id ob p hi hp q' (by simp [hq']) p' hp'
   simpa [zHe] using this
 | [],_::_,_,_,_,hf,_=>hf.elim
 | _::_,[],_,_,_,hf,_=>hf.elim
theorem y7.shift {γ:yN} {a:AS} {v:Value} (h:y7 I γ a v):y7 I (M++γ) (zKQ M.length a) v:=by
 have key: ∀ i,(M++γ)[M.length+i]? =γ[i]? :=fun i=>by rw [qY (by omega),Nat.add_sub_cancel_left]
 cases a with
 | own i s n=>simp only [y7,zKQ] at h ⊢;rw [key];exact h
 | ptr i j k=>obtain ⟨p,e,r⟩:=h;exact ⟨p,(key i).trans e,r⟩
 | pti i j k=>obtain ⟨p,e,r⟩:=h;exact ⟨p,(key i).trans e,r⟩
 | omp i=>obtain ⟨p,e,r⟩:=h;exact ⟨p,(key i).trans e,r⟩
 | arr i n=>obtain ⟨p,e,r⟩:=h;exact ⟨p,(key i).trans e,r⟩
 | _=>exact h
theorem jI.any {τ:Sig} : ∀ {e:ETy} {x:e.T} {ds:List Value},e.solid=true->jI I e x ds->jI τ e x ds
 | .int _,_,_,_,h=>h
 | .bool,_,_,_,h=>h
 | .arr2,_,_,_,h=>h
 | .arr3,_,_,_,h=>h
 | .pair a b,_,_,hs,h=>by
   simp only [ETy.solid,zA] at hs;obtain ⟨d1,d2,rfl,h1,h2⟩:=h;exact ⟨d1,d2,rfl,h1.any hs.1,h2.any hs.2⟩
theorem zAt.any {τ:Sig} {i:Nat} {ob:Ob} (hs:ob.solid=true) (h:zAt I M w i ob):zAt τ M w i ob:=by
 cases ob with
 | row e u xs =>
   obtain ⟨h0,h⟩:=h;refine ⟨h0,?_⟩;cases hβ:M[i]? with
   | none=>simp [hβ] at h
   | some q=>cases q with
     | none=>simpa [hβ] using h
     | some p =>
       simp only [hβ] at h ⊢;obtain ⟨h1,h2,h3,c,h4,h5,h6⟩:=h;exact ⟨h1,h2,h3,c,h4,h5,fun i x hx=>let ⟨d,e1,e2⟩:=h6 i x hx;⟨d,e1.any hs,e2⟩⟩
 | flat=>cases hs
 | map=>cases hs
 | gmap=>cases hs
 | grow=>cases hs
 | fr=>cases hs
theorem zCF.any {τ:Sig} {base:Nat} : ∀ {obs:List Ob} {qs:yN},obs.all Ob.solid=true->(∀ b,base<=b->τ b=none)->zCF I base w obs qs->zCF τ base w obs qs
 | [],[],_,_,h=>h
 | ob::r,q::s,hs,hn,⟨h1,h2,h3,h4⟩=>by
   simp only [qS,zA] at hs;exact ⟨h1,h2.any hs.1,fun p hp=>⟨hn _ (h3 p hp).2.1,(h3 p hp).2⟩,zCF.any hs.2 hn h4⟩
 | [],_::_,_,_,h=>h.elim
 | _::_,[],_,_,h=>h.elim
theorem zCF.ge {base:Nat} : ∀ {obs:List Ob} {qs:yN},zCF I base w obs qs->∀ q∈qs,∀ p,q=some p->base<=p.b
 | [],[],_,q,hq,_,_=>by cases hq
 | ob::r,q::s,⟨_,_,h3,h4⟩,q',hq',p,hp=>by
   cases zP.1 hq' with
   | inl e=>subst e;exact (h3 p hp).2.1
   | inr e=>exact zCF.ge h4 q' e p hp
 | [],_::_,h,_,_,_,_=>h.elim
 | _::_,[],h,_,_,_,_=>h.elim
theorem plainF_rep {τ:Sig} {a:AS} {v:Value} (hc:a.plainF=true) (ha:y7 I M a v):y7 τ M a v:=by
 cases a<;>first|exact ha|(simp [AS.plainF,AS.plain] at hc)
theorem zG0 {τ:Sig} : ∀ {l:List AS} {ds:List Value},l.all AS.plainF=true->jZ (y7 I M) l ds->jZ (y7 τ M) l ds
 | [],[],_,_=>trivial
 | a::l,d::ds,h,hr=>by
   simp only [qS,zA] at h;exact ⟨plainF_rep h.1 hr.1,zG0 h.2 hr.2⟩
 | [],_::_,_,hr=>hr.elim
 | _::_,[],_,hr=>hr.elim
theorem zJZ {τ:Sig} : ∀ {l:List AV} {ds:List Value},(l.all fun v=>match v with
 | .s a=>a.plainF
 | .agg l=>l.all AS.plainF
 | .tup _=>false)=true->jL I M l ds->jL τ M l ds
 | [],[],_,_=>trivial
 | a::l,d::ds,h,hr=>by
   simp only [qS,zA] at h;refine ⟨?_,zJZ h.2 hr.2⟩;cases a with
   | s a=>exact plainF_rep h.1 hr.1
   | agg l=>obtain ⟨ds,e,r⟩:=hr.1;exact ⟨ds,e,zG0 h.1 r⟩
   | tup l=>cases h.1
 | [],_::_,_,hr=>hr.elim
 | _::_,[],_,hr=>hr.elim
theorem AV.plainF_rep {τ:Sig} {a:AV} {v:Value} (hc:a.plainF=true) (ha:qA I M a v):qA τ M a v:=by
 cases a with
 | s a=>exact Vm.plainF_rep hc ha
 | agg l=>obtain ⟨ds,e,r⟩:=ha;exact ⟨ds,e,zG0 hc r⟩
 | tup l=>obtain ⟨vs,e,r⟩:=ha;exact ⟨vs,e,zJZ hc r⟩
theorem zO6 (hF:zZH P T) (h:GG B I M st tmps w) {f:FuncId} {vs:List AV} {vals:List Value} (hv:jL I M vs vals) {d:Option Tmp} (hd:zBM d tmps) {p q:Option Prop} {st':St}
 (hc:zQI T f vs st d=some (p,q,st')) :
 Opt p/\(Opt q->Calls P f vals.toArray w fun e w'=> ∃ u σ' β',e= .returned u/\GG B σ' β' st' (zHM tmps d u) w')/\
  ∃ fn, P.funcs[f]? = some fn ∧ (fn.name == "runtime.NumGoroutine") = false ∧ fn.body.isNone = false := by
 unfold zQI at hc;split at hc
 case h_2=>cases hc
 rename_i c hcf;split at hc
 case h_2=>cases hc
 rename_i p' q' v obs hcr;split at hc
 case h_2=>cases hc
 rename_i hcl;cases hc;rw [yO] at hcl;obtain ⟨fn,hfn⟩:=hF.fn _ _ hcf;have hok:=hF.ok _ _ hcf _ _ hcr
 have put: ∀ {σ':Sig} {β':yN} {st':St} {w':World} {u:Value},GG B σ' (M++β') st' tmps w'->qA σ' β' v u->∃ σ'' β'',GG B σ'' β'' (st'.put d (v.mapAS (zKQ st.next))) (zHM tmps d u) w':=by
  intro σ' β' st' w' u hg hu;refine ⟨σ',M++β',hg.put hd ?_⟩;rw [<- h.len];exact hu.mapAS fun a v ha=>y7.shift ha
 rcases hcl with hcl|hpl
 ·have hview: ∀ {l:List AV} {ds:List Value},l.all AV.clear=true->jL I M l ds->l.map (AV.viewT T st.hp)=l/\jL I [] l ds:=by
   intro l
   induction l with
   | nil=>intro ds _ hr;cases ds with
     | nil=>exact ⟨rfl,trivial⟩
     | cons _ _=>exact hr.elim
   | cons a l ih=>intro ds hh hr;cases ds with
     | nil=>exact hr.elim
     | cons d ds =>
       simp only [qS,zA] at hh;obtain ⟨h1,h2⟩:=ih hh.2 hr.2;obtain ⟨h3,h4⟩:=AV.clear_repT (T:=T) (hp:=st.hp) hh.1 hr.1;exact ⟨by simp [h1,h3],h4,h2⟩
  obtain ⟨h1,h2⟩:=hview hcl hv;rw [h1] at hok;obtain ⟨h3,h4⟩:=hok I vals w h.mem.ag h2;refine ⟨h3,fun hq=>(h4 hq).mono fun e w' ⟨u,σ',β',e1,e2,e3,e4,e5,e6,e7⟩=> ?_,fn,hfn⟩
  have hg:=(h.world e2 e3 e4 e7).push h.bel.size e6 fun id ob p hi hp q hq p' hp'=>by
   have:=(h.mem.ob _ _ hi).lt hp;have:=zCF.ge e6 q hq p' hp';omega
  obtain ⟨σ'',β'',hg⟩:=put hg e5;exact ⟨u,σ'',β'',e1,hg⟩
 ·rw [zA] at hpl
  have hview: ∀ {l:List AV} {ds:List Value},jL I M l ds->jL (zDh w) [] (l.map (AV.viewT T st.hp)) ds:=by
   intro l
   induction l with
   | nil=>intro ds hr;cases ds with
     | nil=>trivial
     | cons _ _=>exact hr.elim
   | cons a l ih=>intro ds hr;cases ds with
     | nil=>exact hr.elim
     | cons d ds=>exact ⟨AV.viewT_rep h.mem hr.1,ih hr.2⟩
  obtain ⟨h3,h4⟩:=hok (zDh w) vals w zMZ (hview hv);refine ⟨h3,fun hq=>(h4 hq).mono fun e w' ⟨u,σ',β',e1,e2,e3,e4,e5,e6,e7⟩=> ?_,fn,hfn⟩
  have hw:GG B I M st tmps w':=h.world (Sig.le.refl _) (fun b o e=>by
   rw [e7.block _ (h.mem.ag.lt e)]
   exact h.mem.ag _ _ e) (fun _ _=>rfl) e7
  have hf:zCF I w.heap.size w' obs β':=e6.any hpl.2 fun b hb=>by
   cases e:I b with
   | none=>rfl
   | some o=>have:=h.mem.ag.lt e;omega
  have hg:=hw.push h.bel.size hf fun id ob p hi hp q hq p' hp'=>by
   have:=(h.mem.ob _ _ hi).lt hp;have:=zCF.ge e6 q hq p' hp';omega
  obtain ⟨σ'',β'',hg⟩:=put hg (AV.plainF_rep hpl.1 e5);exact ⟨u,σ'',β'',e1,hg⟩
end
end Go.Vm
namespace Go.Vm
open Go.RowKit
section
variable {P:Program} {B:Base} {w:World} {I τ:Sig} {M:yN} {st:St} {tmps:Array Value} {T:Tab} {hp:zAG}
theorem zAv {id:Nat} : ∀ {hp:zAG} {i:Nat},hget (zDb hp id) i=if i=id then none else hget hp i
 | [],i=>by simp [zDb,hget]
 | (k, o)::r,i=>by
   simp only [zDb]
   by_cases e:k=id
   ·subst e;rw [qF];simp only;rw [zAv,yB]
    by_cases h:i=k
    ·simp [h]
    ·simp [h,Ne.symm h]
   ·have:Nat.beq k id=false:=by
     cases h:Nat.beq k id with
     | false=>rfl
     | true=>exact (e (zC h)).elim
    rw [this];simp only [yB]
    by_cases h:k=i
    ·subst h;simp [e]
    ·simp only [if_neg h];exact zAv
theorem zJ8 {i id:Nat} (h:i≠id):Nat.beq i id=false:=by
 cases e:Nat.beq i id with
 | false=>rfl
 | true=>exact (h (zC e)).elim
theorem zOi (hag:Ag I w) {id:Nat} {ob:Ob} (h:zAt I M w id ob):Mem I M [(id,ob)] w:=⟨hag,fun i o hi=>by
 simp only [yB] at hi;split at hi
 ·rename_i e;subst e;cases hi;exact h
 ·cases hi⟩
theorem zYv {id:Nat} {ob:Ob} :hget [(id,ob)] id=some ob:=by rw [yB,if_pos rfl]
theorem zKV {id:Nat} {ob:Ob} :hgp [(id,ob)] id=some ob.pln:=by
 unfold hgp;rw [zYv]
theorem zQi (hag:Ag I w) (hτ:I.le τ) {id:Nat} {e:ETy} {u:TypeId} {xs:List e.T} (h:zAt I M w id (.row e u xs)) (hown: ∀ p,M[id]? =some (some p)->τ p.b=w.heap[p.b]?) :
 ∀ a v,y7 I M a v->y7 τ M (zJs id e xs a) v:=by
 intro a v ha
 have hv:=view_rep_at (hp:=[(id,.row e u xs)]) hτ (fun i ob p hi hp=>by
  simp only [yB] at hi;split at hi
  ·rename_i e';subst e';exact hown p hp
  ·cases hi) (zOi hag h) ha
 cases a with
 | own i s n =>
   simp only [zJs]
   by_cases e':i=id
   ·subst e';rw [qF];simp only [view,zKV,Ob.pln] at hv;exact hv
   ·rw [zJ8 e'];exact ha
 | ptr i j k =>
   simp only [zJs]
   by_cases e':i=id
   ·subst e';rw [qF];cases k with
    | zero=>simp only [view,zKV,Ob.pln] at hv;exact hv
    | succ k=>trivial
   ·rw [zJ8 e'];exact ha
 | pti i j k =>
   simp only [zJs]
   by_cases e':i=id
   ·subst e';rw [qF];trivial
   ·rw [zJ8 e'];exact ha
 | _=>exact y7.mono hτ ha
theorem zQT (hag:Ag I w) (hτ:I.le τ) {id:Nat} {k v:ETy} {m:List (k.T×v.T)} (h:zAt I M w id (.map k v m)) (hown: ∀ p,M[id]? =some (some p)->τ p.b=w.heap[p.b]?) :
 ∀ a x,y7 I M a x->y7 τ M (zQB id k v m a) x:=by
 intro a x ha
 have hv:=view_rep_at (hp:=[(id,.map k v m)]) hτ (fun i ob p hi hp=>by
  simp only [yB] at hi;split at hi
  ·rename_i e';subst e';exact hown p hp
  ·cases hi) (zOi hag h) ha
 cases a with
 | omp i =>
   simp only [zQB]
   by_cases e':i=id
   ·subst e';rw [qF];simp only [view,zKV,Ob.pln] at hv;exact hv
   ·rw [zJ8 e'];exact ha
 | _=>exact y7.mono hτ ha
theorem zAt.mapped {f:AS->AS} (hj:f .junk= .junk) (hs:I.le τ) (hx: ∀ b o,I b=some o->τ b=some o) (hf: ∀ a v,y7 I M a v->y7 τ M (f a) v) {i:Nat} {ob:Ob} (h:zAt I M w i ob):zAt τ M w i (ob.mapAS f):=by
 cases ob with
 | row e T xs=>exact h.sig hs hx
 | gmap k e m=>exact h.sig hs hx
 | grow e T xss=>exact h.sig hs hx
 | fr X l=>exact ⟨h.1,fun t=>by rw [zBt f hj];exact (h.2 t).mapAS hf⟩
 | flat T cs =>
   obtain ⟨p,h1,h2,h3,h4,h5,c,h6,h7⟩:=h;exact ⟨p,h1,h2,by simpa using h3,h4,by simpa using h5,c,h6,h7.map f hf⟩
 | map k v m=>exact h.sig hs hx
theorem GG.freezeBy (h:GG B I M st tmps w) {id:Nat} {ob:Ob} (hi:hget st.hp id=some ob) {f:AS->AS} (hj:f .junk= .junk)
 (hf: ∀ τ:Sig,I.le τ->(∀ p,M[id]? =some (some p)->τ p.b=w.heap[p.b]?)->∀ a v,y7 I M a v->y7 τ M (f a) v) :
 ∃ σ',GG B σ' M {env:=st.env.mapAS f,hp:=(zDb st.hp id).mapAS f,next:=st.next} tmps w:=by
 have hob:=h.mem.ob _ _ hi;obtain ⟨x,hx⟩:=hob.place
 -- what is known then
 have build: ∀ σ':Sig,I.le σ'->Ag σ' w->(∀ p,M[id]? =some (some p)->σ' p.b=w.heap[p.b]?)->(∀ b,(∀ p,M[id]? =some (some p)->b≠p.b)->σ' b=I b)->
  GG B σ' M {env:=st.env.mapAS f,hp:=(zDb st.hp id).mapAS f,next:=st.next} tmps w:=by
  intro σ' hle hag hown hsame;have hfa:=hf σ' hle hown;refine ⟨⟨hag,fun i ob2 hi2=> ?_⟩,fun t=> ?_,h.len,fun i ob2 p hi2 hp2=> ?_,h.bel,h.grew.1.trans hle,fun b hb=> ?_⟩
  ·rw [zB5,zAv] at hi2;split at hi2
   ·cases hi2
   ·cases e:hget st.hp i with
    | none=>rw [e] at hi2;cases hi2
    | some ob1=>rw [e] at hi2;cases hi2;exact (h.mem.ob _ _ e).mapped hj hle (fun b o eb=>(hsame b fun q hq=>by
      have:=(h.sep _ _ _ hi hq).1
      rintro rfl;rw [this] at eb;cases eb).trans eb) hfa
  ·show qA σ' M (qQ (st.env.mapAS f) t) _;rw [zBt _ hj];exact (h.env t).mapAS hfa
  ·have get: ∀ {j:Nat} {o2:Ob},hget ((zDb st.hp id).mapAS f) j=some o2->j≠id/\∃ o1,hget st.hp j=some o1:=fun {j o2} hj2=>by
    rw [zB5,zAv] at hj2;split at hj2
    ·cases hj2
    ·rename_i hne;cases e:hget st.hp j with
     | none=>rw [e] at hj2;cases hj2
     | some ob1=>exact ⟨hne,_,rfl⟩
   obtain ⟨hne,o1,e1⟩:=get hi2;obtain ⟨s1,s2,s3⟩:=h.sep _ _ _ e1 hp2;refine ⟨?_,s2,fun i' ob' p' hne' hi' hp'=> ?_⟩
   ·rw [hsame _ fun q hq=>Ne.symm (s3 _ _ _ (Ne.symm hne) hi hq)];exact s1
   ·obtain ⟨_,o2,e2⟩:=get hi';exact s3 _ _ _ hne' e2 hp'
  ·rw [hsame b fun q hq e=> ?_]
   ·exact h.grew.2 b hb
   ·have:=(h.sep _ _ _ hi hq).2.1;omega
 cases x with
 | none=>exact ⟨I,build I (Sig.le.refl _) h.mem.ag (fun p hp=>by rw [hx] at hp;cases hp) (fun _ _=>rfl)⟩
 | some p =>
   have s1:=(h.sep _ _ _ hi hx).1
   have hle:I.le (fun b=>if b=p.b then w.heap[p.b]? else I b):=fun b o e=>by
    show ∃ o',(if b=p.b then _ else _)=some o'/\_;rw [if_neg (by rintro rfl;rw [s1] at e;cases e)];exact ⟨o,e,.refl⟩
   refine ⟨fun b=>if b=p.b then w.heap[p.b]? else I b,build _ hle (fun b o e=> ?_) (fun q hq=> ?_) (fun b hb=> ?_)⟩
   ·replace e:(if b=p.b then w.heap[p.b]? else I b)=some o:=e;split at e
    ·rename_i hb;subst hb;exact ⟨o,e,.refl⟩
    ·exact h.mem.ag _ _ e
   ·rw [hx] at hq;cases hq;show (if p.b=p.b then _ else _)=_;rw [if_pos rfl]
   ·show (if b=p.b then _ else _)=_;rw [if_neg (hb p hx)]
theorem GG.freeze (h:GG B I M st tmps w) (id:Nat): ∃ σ',GG B σ' M (st.freeze id) tmps w:=by
 unfold St.freeze;split
 ·rename_i e u xs hi;obtain ⟨_,h1,_⟩:=zFa hi;exact h.freezeBy h1 rfl fun τ hτ hown=>zQi h.mem.ag hτ (h.mem.obp hi) hown
 ·rename_i k v m hi;obtain ⟨_,h1,_⟩:=zFa hi;exact h.freezeBy h1 rfl fun τ hτ hown=>zQT h.mem.ag hτ (h.mem.obp hi) hown
 ·exact ⟨I,h⟩
theorem GG.freezeAll: ∀ (ids:List Nat) {I:Sig} {st:St},GG B I M st tmps w->∃ σ',GG B σ' M (st.freezeAll ids) tmps w
 | [],I,_,h=>⟨I,h⟩
 | i::r,_,_,h=>by
   obtain ⟨σ',h'⟩:=h.freeze i;exact GG.freezeAll r h'
theorem zO5 (hag:Ag I w) (hτ:I.le τ) {id:Nat} {ob:Ob} (h:zAt I M w id ob) (hown: ∀ p,M[id]? =some (some p)->τ p.b=w.heap[p.b]?) :
 ∀ a v,y7 I M a v->y7 τ M (zIX T id ob a) v:=by
 intro a v ha
 have hv:=viewT_rep_at (T:=T) (hp:=[(id,ob)]) hτ (fun i ob' p hi hp=>by
  simp only [yB] at hi;split at hi
  ·rename_i e';subst e';exact hown p hp
  ·cases hi) (zOi hag h) ha
 cases a with
 | ptr i j k =>
   simp only [zIX]
   by_cases e':i=id
   ·subst e';rw [qF];simp only;split
    ·rename_i e o heq;rw [heq] at hv;exact hv
    ·trivial
   ·rw [zJ8 e'];exact ha
 | pti i j k =>
   simp only [zIX]
   by_cases e':i=id
   ·subst e';rw [qF];trivial
   ·rw [zJ8 e'];exact ha
 | _=>exact y7.mono hτ ha
theorem GG.freezeF (h:GG B I M st tmps w) (id:Nat): ∃ σ',GG B σ' M (st.freezeF T id) tmps w:=by
 unfold St.freezeF;split
 ·rename_i t cs hi;exact h.freezeBy hi rfl fun τ hτ hown=>zO5 h.mem.ag hτ (h.mem.ob _ _ hi) hown
 ·exact ⟨I,h⟩
theorem GG.freezeFs: ∀ (ids:List Nat) {I:Sig} {st:St},GG B I M st tmps w->∃ σ',GG B σ' M (st.freezeFs T ids) tmps w
 | [],I,_,h=>⟨I,h⟩
 | i::r,_,_,h=>by
   obtain ⟨σ',h'⟩:=h.freezeF (T:=T) i;exact GG.freezeFs r h'
theorem GG.capture (h:GG B I M st tmps w) (caps:List Operand): ∃ σ',GG B σ' M (st.capture T caps) tmps w:=by
 obtain ⟨σ1,h1⟩:=GG.freezeAll (zLA st.hp (zMT st.env caps)) h;exact GG.freezeFs _ h1
theorem zQK {env:Env} {ρ:Operand->Value} : ∀ {caps:List Operand} {ps:List PtV},z1u env caps=some ps->(∀ c∈caps,qA I M (jW env c) (ρ c))->jZ (fun (q:PtV) u=>jI I (.pt q.e) (some q.x) [u]) ps (caps.map ρ)
 | [],ps,h,_=>by cases h;trivial
 | c ::r,ps,h,hr=>by
   simp only [z1u] at h;split at h
   ·rename_i e x ps' h1 h2;cases h;have:=hr c (by simp);rw [h1] at this;exact ⟨this,zQK h2 fun c hc=>hr c (by simp [hc])⟩
   ·cases h
end
end Go.Vm
namespace Go.Vm
open Go.RowKit
section
variable {P:Program} {B:Base} {w w':World} {I:Sig} {M:yN} {st:St} {tmps:Array Value} {T:Tab} {o:Oper} {ρ:Operand->Value}
theorem GG.hset_same (h:GG B I M st tmps w) {id:Nat} {ob:Ob} (hi:hget st.hp id=some ob):GG B I M {st with hp:=zBZ st.hp id ob} tmps w:=by
 have e: ∀ i,hget (zBZ st.hp id ob) i=hget st.hp i:=fun i=>by
  rw [zAx ⟨_,hi⟩];split
  ·rename_i e;subst e;exact hi.symm
  ·rfl
 exact ⟨⟨h.mem.ag,fun i o ho=>h.mem.ob i o (by rw [<- e];exact ho)⟩,h.env,h.len,fun i o p ho hp=>by
  obtain ⟨s1,s2,s3⟩:=h.sep i o p (by rw [<- e];exact ho) hp
  exact ⟨s1,s2,fun i' o' p' hne ho' hp'=>s3 i' o' p' hne (by rw [<- e];exact ho') hp'⟩,h.bel,h.grew⟩
theorem zMV (z:Value) (n:Nat):(Builtin.zeroCells #[z] n).toList=List.replicate n z:=by
 simp [Builtin.zeroCells];apply List.ext_getElem
 ·simp
 ·intro i h1 h2;simp [Nat.mod_one]
theorem zNk (hT:zAZ P T) (hE:zGx T) (h:GG B I M st tmps w) (hd:zBM o.dst tmps) {ev:Operand->AV} (hops: ∀ x∈o.op.operands,qA I M (ev x) (ρ x)) {st':St} (he:zLr T o ev st=some st'):zJJ P B o ρ st' tmps w:=by
 unfold zLr at he;split at he
 case h_2=>cases he
 rename_i c hop;obtain ⟨callee,args,ts⟩:=c;dsimp only at he;split at he
 case h_2=>cases he
 rename_i x t ha hts;obtain ⟨args⟩:=args;obtain ⟨ts⟩:=ts;dsimp only at ha hts;subst ha hts;split at he
 case h_2=>cases he
 rename_i id s n u hx hdc;split at he
 case h_2=>cases he
 rename_i u' xs ti hid hti;split at he
 case h_2=>cases he
 rename_i hety;cases he;have hxr:=hops x (by simp [hop,Op.operands,Call.operands]);rw [hx] at hxr;have hxr:y7 I M (.own id s n) (ρ x):=hxr;simp only [y7] at hxr;have hu:=hT.und hdc (by simp);have und: ∀ w:World,(underlying t).run P w= .ok (.slice u) w:=fun w=>hT.desc hdc (by simp)
 have same:n=0->xs.take s++(List.replicate n (0:Int)++xs.drop (s+n))=xs:=by
  rintro rfl;simp
 have skip:n=0->(execOp ρ o).run P w= .ok (.value undef) w->zJJ P B o ρ (({st with hp:=zBZ st.hp id (.row (.int .i64) u' (xs.take s++(List.replicate n (0:Int)++xs.drop (s+n))))} :St).put o.dst .undef) tmps w:=fun hn hrun=>by
  rw [same hn];exact ⟨_,_,I,M,.inl hrun,(h.hset_same hid).put hd qA.undef⟩
 cases hβ:M[id]? with
 | none=>simp [hβ] at hxr
 | some q =>
   cases q with
   | none =>
     simp only [hβ] at hxr;obtain ⟨⟨a0,hv⟩,rfl,rfl⟩:=hxr;refine skip rfl ?_;cases a0<;>simp [execOp,hop,resolve,invoke,builtin,Builtin.clear_,und,hv,undef]
   | some p =>
     simp only [hβ] at hxr;obtain ⟨a,cap,hv,h1,h2,h3,h4⟩:=hxr
     by_cases hn0:n=0
     ·subst hn0;refine skip rfl ?_;simp [execOp,hop,resolve,invoke,builtin,Builtin.clear_,und,hv,undef]
     obtain rfl:a=_:=h2.resolve_left (by omega);have hob:=h.mem.ob _ _ hid;obtain ⟨hxl,hob⟩:=hob;simp only [hβ] at hob;obtain ⟨q1,q2,q3,c,q4,q5,q6⟩:=hob;have q1:p.sz=1:=q1;have hsn:p.o+s*p.sz+n<=c.size:=by rw [q5,q1];rw [q1] at h3;omega
     obtain ⟨zi,z,hi,hs,hb,hz,hzl⟩:=(hT _ _ hti).get
     have hzc:z.cells= #[Value.int .i64 0]:=by
      have:=(hE _ _ hti _ hety).1;rw [this] at hzl;apply Array.ext';rw [hzl];rfl
     have hst:=run_storeCells_at P p.b (p.o+s*p.sz) u' (List.replicate n (Value.int .i64 0)) 0 c w q4 (by simpa using hsn) (fun v hv=>by rw [List.eq_of_mem_replicate hv];rfl);simp only [zBX] at hst
     have hrun:(execOp ρ o).run P w= .ok (.value undef) (w.setRow p.b (c.toList.take (p.o+s*p.sz)++List.replicate n (Value.int .i64 0)++c.toList.drop (p.o+s*p.sz+(List.replicate n (Value.int .i64 0)).length)).toArray):=by
      have hzv:(zeroValue u).run P w= .ok z w:=by simp [zeroValue,typeInfo,hi,hz]
      obtain ⟨m,rfl⟩: ∃ m,n=m+1:=⟨n - 1,by omega⟩;simp [execOp,hop,resolve,invoke,builtin,Builtin.clear_,und,hv,undef,hzv,hzc,zMV,hst]
     have hsep:=h.sep _ _ _ hid hβ;refine ⟨_,_,I,M,.inl hrun,(h.turn hid hβ (fun k hk=>setRow_other w p.b k _ hk) (Below.setRow w _ _ hsep.2.1) ?_).put hd qA.undef⟩
     have hlen:(xs.take s++(List.replicate n (0:Int)++xs.drop (s+n))).length=xs.length:=by
      simp only [z7,zAN,zE1,jH];show min s xs.length+(n+(xs.length - (s+n)))=xs.length;omega
     refine ⟨by rw [hlen];exact hxl,?_⟩;simp only [hβ];refine ⟨q1,by rw [hlen];exact q2,q3,_,zB3 _ q4,?_,fun i x hx=> ?_⟩
     ·simp;omega
     ·have hle':p.o+s*p.sz+(List.replicate n (Value.int .i64 0)).length<=c.toList.length:=by simpa using hsn
      simp only [List.getElem?_toArray,zBv hle'];rw [q1] at q6 ⊢;simp only [Nat.mul_one,jH]
      have hone: ∀ {y:Int} {d:List Value} {j:Nat} {v:Value},jI I (.int .i64) y d->d[j]? =some v->j=0:=fun {y d j v} hy hj=>by
       have hl:d.length=1:=hy.length;have:=(zG.1 hj).1;omega
      have hxs:s+n<=xs.length:=by rw [<- q2];exact h4
      have hts:(xs.take s).length=s:=by rw [zAN];exact Nat.min_eq_left (by omega)
      rcases Nat.lt_or_ge i s with hi1|hi1
      ·rw [yF (by omega),yS,if_pos hi1] at hx;obtain ⟨d,f1,f2⟩:=q6 i x hx;refine ⟨d,f1,fun j v hj=> ?_⟩;obtain rfl:=hone f1 hj;have:=f2 0 v hj;rw [<- zJ,Nat.mul_one] at this;rw [if_pos (by omega)];exact this
      ·rw [qY (by omega),hts] at hx;rcases Nat.lt_or_ge (i - s) n with hi2|hi2
       ·rw [yF (by simpa using hi2),yU,if_pos hi2] at hx;cases hx;refine ⟨[.int .i64 0],⟨rfl,rfl⟩,fun j v hj=> ?_⟩
        obtain rfl:j=0:=by
         have:=(zG.1 hj).1;simpa using this
        rw [if_neg (by omega),if_pos (by omega),yU,if_pos (by omega)];exact hj
       ·rw [qY (by simpa using hi2),jU,jH] at hx;rw [show s+n+(i - s - n)=i by omega] at hx;obtain ⟨d,f1,f2⟩:=q6 i x hx;refine ⟨d,f1,fun j v hj=> ?_⟩;obtain rfl:=hone f1 hj;have:=f2 0 v hj;rw [<- zJ,Nat.mul_one] at this;rw [if_neg (by omega),if_neg (by omega)];exact this
end
end Go.Vm
namespace Go.Vm
open Go.RowKit
def z29:Value->Bool
 | .agg cs=>cs.toList.all zGm
 | v=>zGm v
def zED:Operand->Bool
 | .const v=>z29 v
 | _=>true
def y4 (N:Nat) (o:Oper):Bool :=
 (match o.dst with|some d=>Nat.blt d N|none=>true)&&o.op.operands.toList.all zED
structure GA (B:Base) (N:Nat) (st:St) (a:Act) (w:World):Prop where
 defers:a.defers=B.dfs
 size:a.tmps.size=N
 gg: ∃ I M,GG B I M st a.tmps w
def FR (r:Option Nat):Fence:= {Fence.wide with round:=r}
theorem FR.none:FR none=Fence.wide:=rfl
theorem zCY {P:Program} {f:FuncId} {args:Array Value} {w:World} {R:Ending->World->Prop} (r:Option Nat) (m:Nat) (h:Calls P f args w R):CallsIn (FR r) m P f args w R :=
 (callsIn_wide (n:=m)).2 h
section
variable {P:Program} {B:Base} {w:World} {I:Sig} {M:yN} {st:St} {T:Tab} {N:Nat} {a:Act} {r:Option Nat} {n:Nat}
theorem jY (h:GG B I M st a.tmps w) {x:Operand} (hx:zED x=true):qA I M (jW st.env x) (a.eval x):=by
 cases x with
 | tmp t=>exact h.env t
 | const v =>
   simp only [zED] at hx;show qA I M (AV.ofVal v) v;cases v with
   | agg cs=>exact ⟨cs.toList,by simp,zEk hx⟩
   | int k m=>exact ⟨rfl,(zIp (v:= .int k m) hx).2 _ _ rfl⟩
   | bool b=>rfl
   | _=>exact ⟨rfl,fun cs e=>by cases e⟩
 | global g=>trivial
 | func f=>exact ⟨rfl,fun cs e=>by cases e⟩
theorem zAp {o:Oper} (hs:a.tmps.size=N) (ho:y4 N o=true):zBM o.dst a.tmps:=by
 intro t e;simp only [y4,e,zA] at ho;have:t+1<=N:=by simpa [Nat.blt] using ho.1
 exact Nat.lt_of_lt_of_eq (Nat.lt_of_succ_le this) hs.symm
theorem j9 (a:Act) (d:Option Tmp) (v:Value):(a.put d v).tmps=zHM a.tmps d v:=by cases d<;>rfl
theorem put_defers (a:Act) (d:Option Tmp) (v:Value):(a.put d v).defers=a.defers:=by cases d<;>rfl
theorem q9 (t:Array Value) (d:Option Tmp) (v:Value):(zHM t d v).size=t.size:=by cases d<;>simp [zHM]
theorem zEW (hd:a.defers=B.dfs) (hs:a.tmps.size=N) {st':St} {w':World} {d:Option Tmp} {v:Value} (h: ∃ I M,GG B I M st' (zHM a.tmps d v) w'):GA B N st' (a.put d v) w' :=
 ⟨by rw [put_defers];exact hd,by rw [j9,q9];exact hs,by rw [j9];exact h⟩
structure zAS (P:Program) (T:Tab):Prop where
 ty:zAZ P T
 one:zHB T
 ety:zGx T
 fn:zYF P T
 fr:zZH P T
 mixed:P.follows .mixedOrders=true
 maps:zOx P T
theorem zGB {o:Oper} {ρ:Operand->Value} {f:FuncId} {x:Operand} {args:Array Operand} {ts:Array TypeId} (ho:o.op= .call ⟨.value x,args,ts⟩) (hf:ρ x= .func (.func f) #[] #[]) {fn:Func} (h1:P.funcs[f]? =some fn)
 (h2 : (fn.name == "runtime.NumGoroutine") = false) (h3 : fn.body.isNone = false) : (execOp ρ o).run P w = .ok (.enter f (args.map ρ)) w := by
 simp only [execOp,ho,resolve,hf,Deferred.ofValue,zN,qD,zL,invoke,callFunc,run_program,h1,h2,h3];simp
theorem zC2 {ev:Operand->AV} {ρ:Operand->Value} : ∀ {l:List Operand},(∀ x∈l,qA I M (ev x) (ρ x))->jL I M (l.map ev) (l.map ρ)
 | [],_=>trivial
 | a::l,h=>⟨h a (by simp),zC2 fun x hx=>h x (by simp [hx])⟩
theorem zF2 {ev:Operand->AV} {ρ:Operand->Value} : ∀ {l:List (Nat×Operand)},(∀ x∈l,qA I M (ev x.2) (ρ x.2))->jZ (fun (p:Nat×AV) (q:Nat×Value)=>p.1=q.1/\qA I M p.2 q.2) (l.map fun p=>(p.1,ev p.2)) (l.map fun (i,x)=>(i,ρ x))
 | [],_=>trivial
 | a::l,h=>⟨⟨rfl,h a (by simp)⟩,zF2 fun x hx=>h x (by simp [hx])⟩
structure GB (B:Base) (N:Nat) (M:yN) (st:St) (a:Act) (w:World):Prop where
 defers:a.defers=B.dfs
 size:a.tmps.size=N
 gg: ∃ I,GG B I M st a.tmps w
theorem GB.ga {M:yN} (h:GB B N M st a w):GA B N st a w:=let ⟨I,hg⟩:=h.gg;⟨h.defers,h.size,I,M,hg⟩
theorem zCt {M:yN} (hd:a.defers=B.dfs) (hs:a.tmps.size=N) {st':St} {w':World} {d:Option Tmp} {v:Value} (h: ∃ I,GG B I M st' (zHM a.tmps d v) w'):GB B N M st' (a.put d v) w' :=
 ⟨by rw [put_defers];exact hd,by rw [j9,q9];exact hs,by rw [j9];exact h⟩
theorem zEO: ∀ {l m:List AV} {us vs:List Value},jL I M l us->jL I M m vs->jL I M (l++m) (us++vs)
 | [],_,[],_,_,h=>h
 | _::_,_,_::_,_,h,h2=>⟨h.1,zEO h.2 h2⟩
 | [],_,_::_,_,h,_=>h.elim
 | _::_,_,[],_,h,_=>h.elim
theorem zLb: ∀ {ps:List PtV} {vs:List Value},jZ (fun (q:PtV) u=>jI I (.pt q.e) (some q.x) [u]) ps vs->jL I M (ps.map fun q=>AV.s (.pt q.e (some q.x))) vs
 | [],[],_=>trivial
 | q::ps,v::vs,h=>⟨h.1,zLb h.2⟩
 | [],_::_,h=>h.elim
 | _::_,[],h=>h.elim
theorem zPy {o:Oper} {ρ:Operand->Value} {f:FuncId} {x:Operand} {args:Array Operand} {ts:Array TypeId} {cvs:Array Value} (ho:o.op= .call ⟨.value x,args,ts⟩) (hf:ρ x= .func (.func f) #[] cvs) {fn:Func} (h1:P.funcs[f]? =some fn)
 (h2 : (fn.name == "runtime.NumGoroutine") = false) (h3 : fn.body.isNone = false) : (execOp ρ o).run P w = .ok (.enter f (args.map ρ ++ cvs)) w := by
 simp only [execOp,ho,resolve,hf,Deferred.ofValue,zN,qD,zL,invoke,callFunc,run_program,h1,h2,h3];simp
theorem zKU (R:zAS P T) (h:GB B N M st a w) {o:Oper} (ho:y4 N o=true) {p q:Option Prop} {v:AV} (hc:zAh T o.op (jW st.env) st.hp=some (p,q,v)) :
 Opt p/\(Opt q->∀ {K:Act->World->Prop} {Q:Exit->Act->World->Prop},(∀ a' w',GB B N M (st.put o.dst v) a' w'->K a' w')->o.wpIn (FR r) n P a w K Q):=by
 obtain ⟨I,hg⟩:=h.gg;have hd:=zAp h.size ho
 have hops: ∀ x∈o.op.operands,qA I M (jW st.env x) (a.eval x):=fun x hx=>by
  simp only [y4,zA,zO] at ho;exact jY hg (ho.2 x (by simpa using hx))
 have nodefer: ∀ c,o.op≠.defer c:=by intro c e;rw [e] at hc;cases hc
 have value: ∀ {val:Value} {K:Act->World->Prop} {Q:Exit->Act->World->Prop},(execOp a.eval o).run P w= .ok (.value val) w->qA I M v val->(∀ a' w',GB B N M (st.put o.dst v) a' w'->K a' w')->o.wpIn (FR r) n P a w K Q:=by
  intro val K Q hrun hv hK;refine ⟨fun f _=>trivial,?_⟩;rw [Oper.semAt_eq _ _ _ nodefer,hrun];exact hK _ _ (zCt h.defers h.size ⟨I,hg.put hd hv⟩)
 by_cases hs:Op.simple o.op=true
 ·obtain ⟨h1,h2⟩:=zJD R.ty R.one hg.mem hops hs hc;exact ⟨h1,fun hq {K} {Q} hK=>let ⟨val,e1,e2⟩:=h2 hq;value e1 e2 hK⟩
 ·obtain ⟨dst,op,type,pos,after,guard⟩:=o;cases op
  case lookup t x i commaOk =>
   simp only [zAh] at hc;obtain ⟨h1,h2⟩:=zQ1 R.ty R.one R.ety R.maps hg.mem (hops x (by simp [Op.operands])) (hops i (by simp [Op.operands])) _ _ _ hc;exact ⟨h1,fun hq {K} {Q} hK=>let ⟨val,e1,e2⟩:=h2 hq;value (by simp [execOp,e1]) e2 hK⟩
  case buildSlice t m ps =>
   simp only [zAh] at hc;unfold zCb at hc;split at hc
   ·rename_i u hdc;split at hc
    ·rename_i ui hui;split at hc
     ·rename_i e hety;split at hc
      ·rename_i xs hdec hble hsz;cases hc;refine ⟨trivial,fun _=> ?_⟩;intro K Q hK
       have hv:jZ (fun (p:Nat×AV) (q:Nat×Value)=>p.1=q.1/\qA I M p.2 q.2) (ps.toList.map fun p=>(p.1,jW st.env p.2)) (ps.map fun (i,x)=>(i,a.eval x)).toList:=by
        rw [Array.toList_map];exact zF2 fun x hx=>hops x.2 (by simp [Op.operands];exact ⟨x.1,by simpa using hx⟩)
       obtain ⟨c,hrun,h2,h3,h4,hnn⟩:=zDC (w:=w) R.ty R.ety hv hdc hui hety hdec hble hsz;obtain ⟨σ',hg',hr'⟩:=zKC (u:=u) hg (by omega) h2;have hx:(execOp a.eval ⟨dst,.buildSlice t m ps,type,pos,after,guard⟩).run P w= .ok (.value (.slice (some ⟨w.heap.size,0,none⟩) m m)) (w.alloc (.cells c u)):=by simp [execOp,hrun]
       refine ⟨fun f _=>trivial,?_⟩;rw [Oper.semAt_eq _ _ _ nodefer,hx];rw [<- h4];exact hK _ _ (zCt h.defers h.size ⟨σ',hg'.put hd (by cases m with|zero=>exact ⟨_,by rw [h4]⟩|succ m=>exact hr')⟩)
      ·cases hc
     ·cases hc
    ·cases hc
   ·cases hc
  case call c =>
   obtain ⟨callee,args,ts⟩:=c;cases callee with
   | builtin b=>exact (hs rfl).elim
   | invoke rc m=>simp only [zAh,zUz,zBK] at hc;unfold zFU at hc;split at hc<;>first|contradiction|(cases hc;done)
   | value x =>
     have go: ∀ {f:FuncId},a.eval x= .func (.func f) #[] #[]->zFU T st.hp (.value (.func f)) ts.toList (args.toList.map (jW st.env))=some (p,q,v)->Opt p/\(Opt q->∀ {K:Act->World->Prop} {Q:Exit->Act->World->Prop},(∀ a' w',GB B N M (st.put dst v) a' w'->K a' w')->Oper.wpIn (FR r) n P ⟨dst,.call ⟨.value x,args,ts⟩,type,pos,after,guard⟩ a w K Q):=by
      intro f hfx hc;have hargs:jL I M (args.toList.map (jW st.env)) (args.toList.map a.eval):=zC2 fun x hx=>hops x (by simp [Op.operands,Call.operands];right;simpa using hx);obtain ⟨h1,h2,fn,h3,h4,h5⟩:=zGa R.fn hg hargs hc;refine ⟨h1,fun hq=> ?_⟩;intro K Q hK;refine ⟨fun f _=>trivial,?_⟩;rw [Oper.semAt_eq _ _ _ nodefer,zGB (ρ:=a.eval) rfl hfx h3 h4 h5];refine ⟨(fun e=>by cases e),?_⟩;have hcalls:=h2 hq;have e1:(args.toList.map a.eval).toArray=args.map a.eval:=by rw [<- Array.toList_map]
      rw [e1] at hcalls
      exact (zCY r _ hcalls).mono fun e w' ⟨u,σ',e1,e2,e3⟩=>by
       subst e1;exact hK _ _ (zCt h.defers h.size ⟨σ',e2.put hd e3⟩)
     cases x with
     | func f=>simp only [zAh,zUz,zBK] at hc;exact go rfl hc
     | tmp t =>
       simp only [zAh,zUz,zBK] at hc;split at hc
       ·rename_i f vs hclo;split at hclo
        case h_2=>cases hclo
        rename_i f' ps hev;cases hclo;have hcv:=hops (.tmp t) (by simp [Op.operands,Call.operands]);rw [hev] at hcv;obtain ⟨cvs,hfx,hcap⟩:=hcv
        have hargs:jL I M (args.toList.map (jW st.env)++ps.map fun q=>AV.s (.pt q.e (some q.x))) (args.toList.map a.eval++cvs) :=
         zEO (zC2 fun x hx=>hops x (by simp [Op.operands,Call.operands];right;simpa using hx)) (zLb hcap)
        obtain ⟨h1,h2,fn,h3,h4,h5⟩:=zGa R.fn hg hargs hc;refine ⟨h1,fun hq=> ?_⟩;intro K Q hK;refine ⟨fun f _=>trivial,?_⟩;rw [Oper.semAt_eq _ _ _ nodefer,zPy (ρ:=a.eval) rfl hfx h3 h4 h5];refine ⟨(fun e=>by cases e),?_⟩;have hcalls:=h2 hq;have e1:(args.toList.map a.eval++cvs).toArray=args.map a.eval++cvs.toArray:=by rw [<- List.append_toArray,<- Array.toList_map]
        rw [e1] at hcalls
        exact (zCY r _ hcalls).mono fun e w' ⟨u,σ',e1,e2,e3⟩=>by
         subst e1;exact hK _ _ (zCt h.defers h.size ⟨σ',e2.put hd e3⟩)
       split at hc
       ·rename_i f hev;have hv:=hops (.tmp t) (by simp [Op.operands,Call.operands]);rw [hev] at hv;exact go hv.1 hc
       ·unfold zFU at hc;split at hc<;>first|contradiction|(cases hc;done)|(rename_i hh;cases hh)
     | _=>simp only [zAh,zUz,zBK] at hc;unfold zFU at hc;split at hc<;>first|contradiction|(cases hc;done)|(rename_i hh;cases hh)
  all_goals exact (hs rfl).elim
theorem zKz (R:zAS P T) (h:GA B N st a w) {o:Oper} (ho:y4 N o=true) {p q:Option Prop} {v:AV} (hc:zAh T o.op (jW st.env) st.hp=some (p,q,v)) :
 Opt p/\(Opt q->∀ {K:Act->World->Prop} {Q:Exit->Act->World->Prop},(∀ a' w',GA B N (st.put o.dst v) a' w'->K a' w')->o.wpIn (FR r) n P a w K Q):=by
 obtain ⟨I,M,hg⟩:=h.gg;obtain ⟨h1,h2⟩:=zKU (r:=r) (n:=n) R (⟨h.defers,h.size,I,hg⟩:GB B N M st a w) ho hc;exact ⟨h1,fun hq {_} {_} hK=>h2 hq fun a' w' hb=>hK _ _ hb.ga⟩
theorem zT7 (h:GA B N st a w) {o:Oper} (nodefer: ∀ c,o.op≠.defer c) {st':St} (hd:zJJ P B o a.eval st' a.tmps w) {K:Act->World->Prop} {Q:Exit->Act->World->Prop}
 (hK: ∀ a' w',GA B N st' a' w'->K a' w'):o.wpIn (FR r) n P a w K Q:=by
 obtain ⟨v,w',σ',β',hrun,hg⟩:=hd;refine ⟨fun f _=>trivial,?_⟩;rw [Oper.semAt_eq _ _ _ nodefer];rcases hrun with hrun|⟨hrun,rfl⟩
 ·rw [hrun];exact hK _ _ (zEW h.defers h.size ⟨σ',β',hg⟩)
 ·rw [hrun];exact hK _ _ (zEW h.defers h.size ⟨σ',β',hg⟩)
theorem zRm (R:zAS P T) {M:yN} (h:GB B N M st a w) {o:Oper} (ho:y4 N o=true) {t:TypeId} {x y:Operand} (hop:o.op= .store t x y) {st':St} (he:zCB T t (jW st.env x) (jW st.env y) st o.dst=some (none,none,st'))
 {K:Act->World->Prop} {Q:Exit->Act->World->Prop} (hK: ∀ a' w',GB B N M st' a' w'->K a' w'):o.wpIn (FR r) n P a w K Q:=by
 obtain ⟨I,hg⟩:=h.gg
 have hops: ∀ x∈o.op.operands,qA I M (jW st.env x) (a.eval x):=fun x hx=>by
  simp only [y4,zA,zO] at ho;exact jY hg (ho.2 x (by simpa using hx))
 obtain ⟨_,h2⟩:=zFj R.ty hg (zAp h.size ho) hop (hops x (by simp [hop,Op.operands])) (hops y (by simp [hop,Op.operands])) he;obtain ⟨v,w',σ',hrun,hg'⟩:=h2 trivial;refine ⟨fun f _=>trivial,?_⟩;rw [Oper.semAt_eq _ _ _ (by intro c e;rw [hop] at e;cases e)];rcases hrun with hrun|⟨hrun,rfl⟩
 ·rw [hrun];exact hK _ _ (zCt h.defers h.size ⟨σ',hg'⟩)
 ·rw [hrun];exact hK _ _ (zCt h.defers h.size ⟨σ',hg'⟩)
theorem zIW (R:zAS P T) (h:GA B N st a w) {o:Oper} (ho:y4 N o=true) {p q:Option Prop} {st':St} (he:zEq T o st=some (p,q,st')) :
 Opt p/\(Opt q->∀ {K:Act->World->Prop} {Q:Exit->Act->World->Prop},(∀ a' w',GA B N st' a' w'->K a' w')->o.wpIn (FR r) n P a w K Q):=by
 obtain ⟨I,M,hg⟩:=h.gg;have hd:=zAp h.size ho
 have hops: ∀ x∈o.op.operands,qA I M (jW st.env x) (a.eval x):=fun x hx=>by
  simp only [y4,zA,zO] at ho;exact jY hg (ho.2 x (by simpa using hx))
 have nodefer: ∀ c,o.op≠.defer c:=by intro c e;unfold zEq at he;rw [e] at he;cases he
 have fin:Opt p/\(Opt q->zJJ P B o a.eval st' a.tmps w)->Opt p/\(Opt q->∀ {K:Act->World->Prop} {Q:Exit->Act->World->Prop},(∀ a' w',GA B N st' a' w'->K a' w')->o.wpIn (FR r) n P a w K Q) :=
  fun ⟨h1,h2⟩=>⟨h1,fun hq {_} {_} hK=>zT7 h nodefer (h2 hq) hK⟩
 unfold zEq at he;split at he
 ·rename_i x hop;exact fin <| zL1 hg hd hop (hops x (by simp [hop,Op.operands])) he
 ·rename_i t x hop;dsimp only at he;split at he
  ·rename_i cs hf;cases he;exact fin ⟨trivial,fun _=>zQ9 hg hd hop (hops x (by simp [hop,Op.operands])) hf⟩
  ·cases he
 ·rename_i t hop;dsimp only at he;split at he
  ·rename_i ti hti;cases he;exact fin ⟨trivial,fun _=>zMk R.ty hg hd hop hti⟩
  ·cases he
 ·rename_i t x y hop;exact fin <| zMY R.ty hg hd hop (hops x (by simp [hop,Op.operands])) (hops y (by simp [hop,Op.operands])) he
 ·rename_i t m ps hop;refine fin <| zG3 R.ty R.ety hg hd hop ?_ he;rw [Array.toList_map];exact zF2 fun x hx=>hops x.2 (by simp [hop,Op.operands];exact ⟨x.1,by simpa using hx⟩)
 ·rename_i t l c hop;exact fin <| zHP R.ty R.ety hg hd hop (hops l (by simp [hop,Op.operands])) (hops c (by simp [hop,Op.operands])) he
 ·rename_i t hop;exact fin <| zRB hg hd hop he
 ·rename_i t x y z hop;exact fin <| zMa R.ty R.maps hg hd (.inl hop) (hops x (by simp [hop,Op.operands])) (hops y (by simp [hop,Op.operands])) (hops z (by simp [hop,Op.operands])) he
 ·rename_i t x y z hop;exact fin <| zMa R.ty R.maps hg hd (.inr hop) (hops x (by simp [hop,Op.operands])) (hops y (by simp [hop,Op.operands])) (hops z (by simp [hop,Op.operands])) he
 ·rename_i c hop;obtain ⟨callee,args,ts⟩:=c;dsimp only at he;split at he
  ·rename_i x y hcal hargs
   have hcal:callee= .builtin .append:=by
    unfold zBK at hcal;split at hcal
    ·split at hcal<;>cases hcal
    ·exact hcal
   subst hcal
   have hA:args= #[x,y]:=by
    have:args.toList=[x,y]:=hargs;rw [<- Array.toArray_toList (xs:=args),this]
   subst hA;exact fin <| zK0 R.ty hg hd hop (hops x (by simp [hop,Op.operands,Call.operands])) (hops y (by simp [hop,Op.operands,Call.operands])) he
  ·rename_i f hcal
   obtain ⟨x,rfl,hfx⟩: ∃ x,callee= .value x/\a.eval x= .func (.func f) #[] #[]:=by
    unfold zBK at hcal;split at hcal
    ·rename_i t;split at hcal
     ·rename_i f' hev;cases hcal;have hv:=hops (.tmp t) (by simp [hop,Op.operands,Call.operands]);rw [hev] at hv;exact ⟨.tmp t,rfl,hv.1⟩
     ·cases hcal
    ·subst hcal;exact ⟨.func f,rfl,rfl⟩
   have hargs:jL I M (args.toList.map (jW st.env)) (args.toList.map a.eval):=zC2 fun x hx=>hops x (by simp [hop,Op.operands,Call.operands];right;simpa using hx);obtain ⟨h1,h2,fn,h3,h4,h5⟩:=zO6 R.fr hg hargs hd he;refine ⟨h1,fun hq=> ?_⟩;intro K Q hK;refine ⟨fun f _=>trivial,?_⟩;rw [Oper.semAt_eq _ _ _ nodefer,zGB (ρ:=a.eval) hop hfx h3 h4 h5];refine ⟨(fun e=>by cases e),?_⟩;have hcalls:=h2 hq;have e1:(args.toList.map a.eval).toArray=args.map a.eval:=by rw [<- Array.toList_map]
   rw [e1] at hcalls
   exact (zCY r _ hcalls).mono fun e w' ⟨u,σ',β',e1,e2⟩=>by
    subst e1;exact hK _ _ (zEW h.defers h.size ⟨σ',β',e2⟩)
  ·cases he
 ·cases he
theorem zJU {T:Tab} {o:Oper} {st:St} {r} (h:zLT T o st=some r):zEq T o st=some r:=by
 unfold zLT at h;split at h
 ·cases h
 ·exact h
theorem zCy (R:zAS P T) (h:GA B N st a w) {draw:Bool} {o:Oper} (ho:y4 N o=true) {p q:Option Prop} {st':St} (he:zCR T draw o st=some (p,q,st')) :
 Opt p/\(Opt q->∀ {K:Act->World->Prop} {Q:Exit->Act->World->Prop},(∀ a' w',GA B N st' a' w'->K a' w')->o.wpIn (FR r) n P a w K Q):=by
 have calm: ∀ {st:St} {res},GA B N st a w->zAJ T o st=some res->res=(p,q,st')->Opt p/\(Opt q->∀ {K:Act->World->Prop} {Q:Exit->Act->World->Prop},(∀ a' w',GA B N st' a' w'->K a' w')->o.wpIn (FR r) n P a w K Q):=by
  intro st res h hc e;subst e;unfold zAJ at hc;split at hc
  ·rename_i p' q' v hv;cases hc;exact zKz R h ho hv
  ·cases hc
 unfold zCR at he;cases draw with
 | true =>
   simp only at he;split at he
   ·rename_i res hc;exact calm h hc (Option.some.inj he)
   ·exact zIW R h ho (zJU he)
 | false =>
   simp only at he;split at he
   ·rename_i res hc;cases he;exact zIW R h ho hc
   ·split at he
    ·rename_i res hc;cases he;exact calm h hc rfl
    ·split at he
     ·cases he
     ·rename_i i ids _;obtain ⟨I,M,hg⟩:=h.gg;obtain ⟨σ',hg'⟩:=GG.freezeAll (i::ids) hg;have h':GA B N (st.freezeAll (i::ids)) a w:=⟨h.defers,h.size,σ',M,hg'⟩;split at he
      ·rename_i res hc;cases he;exact zIW R h' ho hc
      ·exact calm h' he rfl
theorem zRe (R:zAS P T) (h:GA B N st a w) {draw:Bool} {o:Oper} (ho:y4 N o=true) {K:St->Prop} (hk:zRM T draw o st K) {K':Act->World->Prop} {Q:Exit->Act->World->Prop}
 (hK: ∀ st' a' w',K st'->GA B N st' a' w'->K' a' w'):o.wpIn (FR r) n P a w K' Q:=by
 unfold zRM at hk;simp only [St.force_eq] at hk;split at hk
 ·rename_i st' hs;exact (zCy R h ho hs).2 trivial fun a' w'=>hK _ _ _ hk
 ·rename_i p st' hs;obtain ⟨h1,h2⟩:=zCy (r:=r) (n:=n) R h ho hs;exact h2 trivial fun a' w'=>hK _ _ _ (hk.out h1)
 ·rename_i q st' hs;obtain ⟨k1,k2⟩:=hk.out;exact (zCy R h ho hs).2 k1 fun a' w'=>hK _ _ _ k2
 ·rename_i p q st' hs;obtain ⟨h1,h2⟩:=zCy (r:=r) (n:=n) R h ho hs;obtain ⟨k1,k2⟩:=(hk.out h1).out;exact h2 k1 fun a' w'=>hK _ _ _ k2
 ·exact hk.elim
theorem zVi {r:Option Res} {K:AV->Prop} (h:z2f r K): ∃ p q v,r=some (p,q,v)/\(Opt p->Opt q/\K v):=by
 unfold z2f at h;split at h
 ·rename_i v;exact ⟨none,none,v,rfl,fun _=>⟨trivial,h⟩⟩
 ·rename_i p v;exact ⟨some p,none,v,rfl,fun hp=>⟨trivial,h.out hp⟩⟩
 ·rename_i q v;exact ⟨none,some q,v,rfl,fun _=>h.out⟩
 ·rename_i p q v;exact ⟨some p,some q,v,rfl,fun hp=>(h.out hp).out⟩
 ·exact h.elim
theorem zJO {o:Oper} {ev:Operand->AV} {st st':St} (h:zLr T o ev st=some st'): ∀ c,o.op≠.defer c:=fun c e=>by
 unfold zLr at h;rw [e] at h;cases h
theorem zX9 (R:zAS P T) (h:GA B N st a w) {draw:Bool} {o:Oper} (ho:y4 N o=true) {K:St->Prop} (hk:aop T draw o st K) {K':Act->World->Prop} {Q:Exit->Act->World->Prop}
 (hK: ∀ st' a' w',K st'->GA B N st' a' w'->K' a' w'):o.wpIn (FR r) n P a w K' Q:=by
 unfold aop at hk;split at hk
 ·exact zRe R h ho hk hK
 ·split at hk
  ·rename_i hd vs hrun;simp only [St.force_eq] at hk;obtain ⟨I,M,hg⟩:=h.gg
   have hops: ∀ x∈o.op.operands,qA I M (jW st.env x) (a.eval x):=fun x hx=>by
    simp only [y4,zA,zO] at ho;exact jY hg (ho.2 x (by simpa using hx))
   unfold z3T at hrun;split at hrun
   case h_2=>cases hrun
   rename_i c hop;obtain ⟨callee,args,ts⟩:=c;dsimp only at hrun;split at hrun
   case h_2=>cases hrun
   rename_i f hcal;split at hrun
   case h_2=>cases hrun
   rename_i hd' hl;cases hrun
   obtain ⟨x,rfl,hfx⟩: ∃ x,callee= .value x/\a.eval x= .func (.func f) #[] #[]:=by
    unfold zBK at hcal;split at hcal
    ·rename_i t;split at hcal
     ·rename_i f' hev;cases hcal;have hv:=hops (.tmp t) (by simp [hop,Op.operands,Call.operands]);rw [hev] at hv;exact ⟨.tmp t,rfl,hv.1⟩
     ·cases hcal
    ·subst hcal;exact ⟨.func f,rfl,rfl⟩
   have hargs:jL I M (args.toList.map (jW st.env)) (args.toList.map a.eval):=zC2 fun x hx=>hops x (by simp [hop,Op.operands,Call.operands];right;simpa using hx);obtain ⟨fn,h3,h4,h5⟩:=R.fr.fn _ _ hl;have hcalls:=R.fr.run _ _ hl B I M st a.tmps w _ _ _ hg hargs hk;refine ⟨fun f _=>trivial,?_⟩;rw [Oper.semAt_eq _ _ _ (by intro c e;rw [hop] at e;cases e),zGB (ρ:=a.eval) hop hfx h3 h4 h5];refine ⟨(fun e=>by cases e),?_⟩
   have e1:(args.toList.map a.eval).toArray=args.map a.eval:=by rw [<- Array.toList_map]
   rw [e1] at hcalls
   exact (zCY r _ hcalls).mono fun e w' ⟨u,av,st',σ',β',e1,e2,e3,e4⟩=>by
    subst e1;exact hK _ _ _ e2 (zEW h.defers h.size ⟨σ',β',e3.put (zAp h.size ho) e4⟩)
  ·split at hk
   ·rename_i f vs hclo;obtain ⟨I,M,hg⟩:=h.gg
    have hops: ∀ x∈o.op.operands,qA I M (jW st.env x) (a.eval x):=fun x hx=>by
     simp only [y4,zA,zO] at ho;exact jY hg (ho.2 x (by simpa using hx))
    unfold z3S at hclo;split at hclo
    case h_2=>cases hclo
    rename_i c hop;obtain ⟨callee,args,ts⟩:=c;dsimp only at hclo;split at hclo
    case h_2=>cases hclo
    rename_i t;split at hclo
    case h_2=>cases hclo
    rename_i f' ps hev;cases hclo;have hcv:=hops (.tmp t) (by simp [hop,Op.operands,Call.operands]);rw [hev] at hcv;obtain ⟨cvs,hfx,hcap⟩:=hcv
    have hargs:jL I M (args.toList.map (jW st.env)++ps.map fun q=>AV.s (.pt q.e (some q.x))) (args.toList.map a.eval++cvs) :=
     zEO (zC2 fun x hx=>hops x (by simp [hop,Op.operands,Call.operands];right;simpa using hx)) (zLb hcap)
    obtain ⟨p,q,v,hc,hkk⟩:=zVi hk;obtain ⟨h1,h2,fn,h3,h4,h5⟩:=zGa R.fn hg hargs hc;obtain ⟨k1,k2⟩:=hkk h1;have hcalls:=h2 k1;rw [St.force_eq] at k2;refine ⟨fun f _=>trivial,?_⟩;rw [Oper.semAt_eq _ _ _ (by intro c e;rw [hop] at e;cases e),zPy (ρ:=a.eval) hop hfx h3 h4 h5];refine ⟨(fun e=>by cases e),?_⟩;have e1:(args.toList.map a.eval++cvs).toArray=args.map a.eval++cvs.toArray:=by rw [<- List.append_toArray,<- Array.toList_map]
    rw [e1] at hcalls
    exact (zCY r _ hcalls).mono fun e w' ⟨u,σ',e1,e2,e3⟩=>by
     subst e1;exact hK _ _ _ k2 (zEW h.defers h.size ⟨σ',M,e2.put (zAp h.size ho) e3⟩)
   ·split at hk
    ·rename_i st' hcl;rw [St.force_eq] at hk;obtain ⟨I,M,hg⟩:=h.gg
     have hops: ∀ x∈o.op.operands,qA I M (jW st.env x) (a.eval x):=fun x hx=>by
      simp only [y4,zA,zO] at ho;exact jY hg (ho.2 x (by simpa using hx))
     exact zT7 h (zJO hcl) (zNk R.ty R.ety hg (zAp h.size ho) hops hcl) fun a' w'=>hK _ _ _ hk
    ·split at hk
     ·rename_i f caps hmf;simp only [St.force_eq] at hk;split at hk
      case h_2=>exact hk.elim
      rename_i ps hps
      obtain ⟨first,capA,hop,hf0,rfl⟩: ∃ first capA,o.op= .makeFunc (.func f) first capA/\first.toList=[]/\capA.toList=caps:=by
       unfold z3H at hmf;split at hmf
       ·rename_i f' first capA hop
        split at hmf
        ·rename_i hf;cases hmf;exact ⟨first,capA,hop,hf,rfl⟩
        ·cases hmf
       ·cases hmf
      obtain ⟨I,M,hg⟩:=h.gg;obtain ⟨σ',hg'⟩:=hg.capture (T:=T) capA.toList
      have hops: ∀ x∈capA.toList,qA σ' M (jW (st.capture T capA.toList).env x) (a.eval x):=fun x hx=>by
       simp only [y4,zA,zO] at ho;exact jY hg' (ho.2 x (by simp [hop,Op.operands];right;simpa using hx))
      have hr:=zQK hps hops;refine ⟨fun f _=>trivial,?_⟩
      have hrun:(execOp a.eval o).run P w= .ok (.value (.func (.func f) #[] (capA.map a.eval))) w:=by
       have hfe:first= #[]:=by rw [<- Array.toArray_toList (xs:=first),hf0]
       subst hfe;simp [execOp,hop,Instr.makeFunc,zN,qD]
      rw [Oper.semAt_eq _ _ _ (by intro c e;rw [hop] at e;cases e),hrun];exact hK _ _ _ hk (zEW h.defers h.size ⟨σ',M,hg'.put (zAp h.size ho) ⟨capA.toList.map a.eval,by rw [<- Array.toList_map],hr⟩⟩)
     ·exact zRe R h ho hk hK
theorem zEf {ops:Array Oper} {t:Array Value} {j:Nat} {d:Tmp} {b:Bool} (hd:j7 ops j=some d) (hv:t.getD d undef= .bool b):yielded ops t j=some b:=by
 unfold j7 at hd;unfold yielded;split at hd
 ·rename_i o ho;simp only [ho,Option.bind_some,hd];cases e:t[d]? with
  | none=>simp [zK,e,undef] at hv
  | some v =>
    simp only [zK,e,qL] at hv;subst hv;rfl
 ·cases hd
theorem zAT {ops:Array Oper} {env:Env} {j:Nat} (h:zD6 ops env j≠.junk): ∃ d,j7 ops j=some d/\zD6 ops env j=qQ env d:=by
 unfold zD6 at h ⊢;unfold j7;split
 ·rename_i o ho;simp only [ho] at h;split
  ·rename_i d hd;exact ⟨d,hd,rfl⟩
  ·rename_i hd;simp [hd] at h
 ·rename_i ho;simp [ho] at h
theorem zCH (h:GA B N st a w) {d:Tmp} {b:Bool} (hb:qQ st.env d= .s (.bool b)):GA B N (st.put (some d) (.s (.bool b))) a w:=by
 obtain ⟨I,M,hg⟩:=h.gg;refine ⟨h.defers,h.size,I,M,hg.mem,fun t=> ?_,hg.len,hg.sep,hg.bel,hg.grew⟩;show qA I M (qQ ((d,_)::st.env) t) _;rw [j8];split
 ·rename_i e;subst e;have:=hg.env d;rw [hb] at this;exact this
 ·exact hg.env t
theorem zFQ (h:GA B N st a w) {o:Oper} (ho:y4 N o=true):GA B N (st.put o.dst .undef) (a.put o.dst undef) w:=by
 obtain ⟨I,M,hg⟩:=h.gg;exact zEW h.defers h.size ⟨I,M,hg.put (zAp h.size ho) qA.undef⟩
theorem zCv (R:zAS P T) {draw:Bool} {ops:Array Oper} {Q:Exit->Act->World->Prop} (rest:List Oper): ∀ (l:List Oper) {st:St} {a:Act} {w:World} {K:St->Prop},(∀ o∈l,y4 N o=true)->
 GA B N st a w->zBj T draw ops l st K->(∀ st' a' w',K st'->GA B N st' a' w'->wpListIn (FR r) n P ops Q rest a' w')->wpListIn (FR r) n P ops Q (l++rest) a w
 | [],st,a,w,K,_,h,hk,hQ=>hQ _ _ _ hk h
 | o :: l, st,a,w,K,hall,h,hk,hQ=>by
   have ho:=hall o (by simp);have hall': ∀ o∈l,y4 N o=true:=fun o' ho'=>hall o' (by simp [ho'])
   have run: ∀ {st:St},GA B N st a w->aop T draw o st (fun st'=>zBj T draw ops l st' K)->o.wpIn (FR r) n P a w (wpListIn (FR r) n P ops Q (l++rest)) Q:=fun h hk =>
    zX9 R h ho hk fun st' a' w' hk' h'=>zCv R rest l hall' h' hk' hQ
   have skip: ∀ {st:St},GA B N st a w->zBj T draw ops l (st.put o.dst .undef) K->wpListIn (FR r) n P ops Q (l++rest) (a.put o.dst undef) w:=fun h hk =>
    zCv R rest l hall' (zFQ h ho) hk hQ
   simp only [zCZ,wpListIn];simp only [zBj,St.force_eq] at hk;cases hg:o.guard with
   | none =>
     simp only [hg] at hk;have:Region.wanted o (yielded ops a.tmps)=true:=by simp [Region.wanted,hg]
     rw [if_pos this];exact run h hk
   | some jw =>
     obtain ⟨j,want⟩:=jw;simp only [hg] at hk;obtain ⟨I,M,hgg⟩:=h.gg;split at hk
     ·rename_i b hb;obtain ⟨d,hd,hd2⟩:=zAT (ops:=ops) (env:=st.env) (j:=j) (by rw [hb];simp);rw [hd2] at hb;have hv:=hgg.env d;rw [hb] at hv;have hy:=zEf (ops:=ops) hd (show a.tmps.getD d undef= .bool b from hv);rw [hd] at hk;cases b with
      | true =>
        cases want with
        | true =>
          rw [if_pos (by simp [Region.wanted,hg,hy])];exact run (zCH h hb) hk
        | false =>
          rw [if_neg (by simp [Region.wanted,hg,hy])];exact ⟨fun f _=>trivial,skip (zCH h hb) hk⟩
      | false =>
        cases want with
        | true =>
          rw [if_neg (by simp [Region.wanted,hg,hy])];exact ⟨fun f _=>trivial,skip (zCH h hb) hk⟩
        | false =>
          rw [if_pos (by simp [Region.wanted,hg,hy])];exact run (zCH h hb) hk
     ·rename_i vs hb;obtain ⟨d,hd,hd2⟩:=zAT (ops:=ops) (env:=st.env) (j:=j) (by rw [hb];simp);rw [hd2] at hb;have hv:=hgg.env d;rw [hb] at hv
      have hy:yielded ops a.tmps j=none:=by
       have e1:a.tmps.getD d undef= .tuple vs:=hv.1;unfold j7 at hd;unfold yielded;split at hd
       ·rename_i o' ho';simp only [ho',Option.bind_some,hd];cases e:a.tmps[d]? with
        | none=>rfl
        | some v =>
          simp only [zK,e,qL] at e1;subst e1;rfl
       ·cases hd
      rw [if_neg (by simp [Region.wanted,hg,hy])];exact ⟨fun f _=>trivial,skip h hk⟩
     ·exact hk.elim
end
end Go.Vm
namespace Go.Vm
open Go.RowKit
abbrev Fr:=Nat->AV
def upd (e:Fr) (d:Option Tmp) (v:AV):Fr:=match d with
 | some t=>fun x=>if t=x then v else e x
 | none=>e
def zCk (e:Fr):Operand->AV
 | .tmp t=>e t
 | .const v=>AV.ofVal v
 | .global _=> .junk
 | .func f=> .s (.val (.func (.func f) #[] #[]))
theorem zBU (env:Env):zCk (qQ env)=jW env:=by funext x;cases x<;>rfl
def jM (ops:Array Oper) (e:Fr) (o:Oper):Option Bool :=
 match o.guard with
 | none=>some true
 | some (j,want)=>match j7 ops j with
   | some d=>match e d with
     | .s (.bool b)=>some (b==want)
     | .s (.val (.tuple _))=>some false
     | _=>none
   | none=>none
def jG:Op->Option TypeId
 | .alloc t=>some t
 | _=>none
def zBG:Op->Option (TypeId×Tmp×Operand)
 | .store t (.tmp d) x=>some (t,d,x)
 | _=>none
def zBa:List Oper->Nat->Nat
 | [],_=>0
 | _::_,0=>0
 | o::l,i+1=>(match jG o.op with|some _=>1|none=>0)+zBa l i
def z00 (nx:Nat) (hp hp':zAG):Prop:= ∀ id,id<nx->hget hp' id=hget hp id
def Yields (T:Tab) (ops:Array Oper) (hp:zAG) (nx:Nat) (gf:Nat->List AS) (i:Nat) (o:Oper) (v:AV) (e:Fr):Prop :=
 match jG o.op with
 | none=>match zBG o.op with
   | none=>(jM ops e o=some true/\∃ p q,(∀ hp',z00 nx hp hp'->zAh T o.op (zCk e) hp'=some (p,q,v))/\Opt q)\/(jM ops e o=some false/\v= .undef)
   | some (t,d,x)=>o.guard=none/\v= .undef/\∃ j oj ti,j<i/\ops[j]? =some oj/\jG oj.op=some t/\oj.dst=some d/\zCk e (.tmp d)= .s (.ptr (nx+zBa ops.toList j) 0 0)/\T.info t=some ti/\
      (zCk e x).flat=some (gf i)/\(Nat.beq (gf i).length (T.sizeOf t)&& !Nat.beq (T.sizeOf t) 0)=true/\(gf i).all AS.storable=true/\Nat.ble (0+(gf i).length) ti.zero.length=true
 | some t=>o.guard=none/\(T.info t).isSome=true/\v= .s (.ptr (nx+zBa ops.toList i) 0 0)
theorem zDe {T:Tab} {op:Op} {ev ev':Operand->AV} {hp:zAG} (h: ∀ x∈op.operands,ev x=ev' x):zAh T op ev hp=zAh T op ev' hp:=by
 have pairs: ∀ l:List (Nat×Operand),(∀ x∈l.map (·.2),ev x=ev' x)->(l.map fun p=>(p.1,ev p.2))=(l.map fun p=>(p.1,ev' p.2)):=fun l hl =>
  zAQ fun p hp=>by rw [hl p.2 (zS.2 ⟨p,hp,rfl⟩)]
 cases op<;>simp only [zAh]<;>simp only [Op.operands] at h
 case move x=>rw [h x (by simp)]
 case assign x=>rw [h x (by simp)]
 case pick c a b=>rw [h c (by simp),h a (by simp),h b (by simp)]
 case build t ps=>rw [pairs _ fun x hx=>h x (by simpa using hx)]
 case buildSlice t n ps=>rw [pairs _ fun x hx=>h x (by simpa using hx)]
 case load t x=>rw [h x (by simp)]
 case nilCheck x=>rw [h x (by simp)]
 case binOp op t x y u=>rw [h x (by simp),h y (by simp)]
 case unOp op t x=>rw [h x (by simp)]
 case convert s d x=>rw [h x (by simp)]
 case slice t x lo hi mx =>
  cases mx with
  | some _=>rfl
  | none =>
    simp only;rw [h x (by simp)]
    congr 1
    ·cases lo with
     | none=>rfl
     | some y=>simp [h y (by simp)]
    ·cases hi with
     | none=>rfl
     | some y=>simp [h y (by simp)]
 case fieldAddr t x f=>rw [h x (by simp)]
 case field t x f=>rw [h x (by simp)]
 case indexAddr t x i=>rw [h x (by simp),h i (by simp)]
 case index t x i=>rw [h x (by simp),h i (by simp)]
 case lookup t x i c=>rw [h x (by simp),h i (by simp)]
 case extract x i=>rw [h x (by simp)]
 case call c =>
  have:c.args.toList.map ev=c.args.toList.map ev':=zAQ fun x hx=>h x (by simp [Call.operands];right;simpa using hx)
  have hc:zBK ev c.callee=zBK ev' c.callee:=by
   unfold zBK;split
   ·rename_i t hcal;rw [h (.tmp t) (by simp [Call.operands,hcal])]
   ·rfl
  have hd:zUz ev c.callee=zUz ev' c.callee:=by
   unfold zUz;split
   ·rename_i t hcal;rw [h (.tmp t) (by simp [Call.operands,hcal])]
   ·rfl
  rw [this,hc,hd]
section
variable {T:Tab} {ops:Array Oper} {hp:zAG} {nx:Nat} {gf:Nat->List AS}
theorem zHq {e:Fr} {d:Option Tmp} {v:AV} {x:Operand} (h: ∀ t,d=some t->x≠.tmp t):zCk (upd e d v) x=zCk e x:=by
 cases d with
 | none=>rfl
 | some t =>
   cases x with
   | tmp s =>
     have:t≠s:=fun e=>h t rfl (by rw [e]);simp [zCk,upd,this]
   | _=>rfl
theorem Yields.of_apart {i:Nat} {o:Oper} {v u:AV} {e:Fr} {d:Option Tmp} (h: ∀ t,d=some t->t∉o.looksAt ops):Yields T ops hp nx gf i o v (upd e d u)↔Yields T ops hp nx gf i o v e:=by
 have h1: ∀ hp,zAh T o.op (zCk (upd e d u)) hp=zAh T o.op (zCk e) hp:=fun hp=>zDe fun x hx=>zHq fun t ht hxt=>h t ht (by
  subst hxt;simp only [Oper.looksAt,zY,List.mem_filterMap]
  exact .inl ⟨.tmp t,by simpa using hx,rfl⟩)
 have h2 : jM ops (upd e d u) o=jM ops e o:=by
  unfold jM;cases hg:o.guard with
  | none=>rfl
  | some jw =>
    obtain ⟨j,want⟩:=jw;simp only;cases hs:j7 ops j with
    | none=>rfl
    | some s =>
      simp only
      have:upd e d u s=e s:=by
       cases d with
       | none=>rfl
       | some t =>
         have hne:t≠s:=by
          rintro rfl;refine h t rfl ?_;simp only [Oper.looksAt,hg,zY];right;unfold j7 at hs;cases ho:ops[j]? with
          | none=>simp [ho] at hs
          | some o'=>simp only [ho] at hs;simp [hs]
         simp [upd,hne]
      rw [this]
 have h3: ∀ x∈o.op.operands,zCk (upd e d u) x=zCk e x:=fun x hx=>zHq fun t ht hxt=>h t ht (by
  subst hxt;simp only [Oper.looksAt,zY,List.mem_filterMap]
  exact .inl ⟨.tmp t,by simpa using hx,rfl⟩)
 unfold Yields;cases hi:zBG o.op with
 | none=>simp only [h1,h2]
 | some tdx =>
   obtain ⟨t,s,x⟩:=tdx
   have hop:o.op= .store t (.tmp s) x:=by
    revert hi
    cases o.op<;>simp only [zBG]<;>first|(intro h;cases h;done)|skip
    rename_i t' y z;cases y<;>simp only [zBG]<;>intro h<;>cases h;rfl
   simp only [hop,Op.operands] at h3;simp only [h3 (.tmp s) (by simp),h3 x (by simp)]
theorem zKP {e:Fr} {x y:Option Tmp} {u v:AV} (h: ∀ t,x=some t->y≠some t):upd (upd e x u) y v=upd (upd e y v) x u:=by
 cases x with
 | none=>rfl
 | some s =>
   cases y with
   | none=>rfl
   | some t =>
     have hne:s≠t:=fun e=>h s rfl (by rw [e])
     funext z
     simp only [upd]
     by_cases h1:t=z
     ·subst h1;simp [hne]
     ·simp [h1]
def zND (Y:Nat->Oper->AV->Fr->Prop) (ops:Array Oper) (i:Nat) (K:Fr->Prop) (e:Fr):Prop:= ∃ o v,ops[i]? =some o/\Y i o v e/\K (upd e o.dst v)
def zIP (Y:Nat->Oper->AV->Fr->Prop) (ops:Array Oper) (k:Nat) (ef:Fr):Nat->Array Bool->Fr->Prop
 | 0,listed,e=>(∀ i<k,listed.getD i true=true)/\e=ef
 | m+1,listed,e=>(Region.ready .any ops listed≠[])/\∀ i∈Region.ready .any ops listed,i<k/\zND Y ops i (zIP Y ops k ef m (listed.setIfInBounds i true)) e
variable {Y:Nat->Oper->AV->Fr->Prop}
def zYl (Y:Nat->Oper->AV->Fr->Prop) (ops:Array Oper):Prop:= ∀ (i:Nat) (o:Oper) (v u:AV) (e:Fr) (d:Option Tmp),(∀ t,d=some t->t∉o.looksAt ops)->(Y i o v (upd e d u)↔Y i o v e)
theorem zNv {i:Nat} {K K':Fr->Prop} {e:Fr} (h: ∀ e,K e->K' e) (hh:zND Y ops i K e):zND Y ops i K' e :=
 let ⟨o,v,h1,h2,h3⟩:=hh;⟨o,v,h1,h2,h _ h3⟩
theorem zQg (hY:zYl Y ops) {j:Nat} {oi oj:Oper} {v:AV} (hj:ops[j]? =some oj) (hap:oi.apart ops oj=true) {K:Fr->Prop} {e:Fr}
 {i:Nat} (hy:Y i oi v e) (h:zND Y ops j K (upd e oi.dst v)):zND Y ops j (fun e'=>Y i oi v e'/\K (upd e' oi.dst v)) e:=by
 obtain ⟨h1,h2,h3⟩:=Oper.apart_spec hap;obtain ⟨o,u,ho,hyu,hk⟩:=h;rw [hj] at ho;cases ho;refine ⟨oj,u,hj,(hY _ _ _ _ _ _ h1).1 hyu,(hY _ _ _ _ _ _ h3).2 hy,?_⟩;rw [zKP fun t ht=>fun e=>h2 t e ht];exact hk
def Dn (ops:Array Oper) (listed:Array Bool):Prop:= ∀ j i,listed.getD j false=true->waits ops j i=true->listed.getD i false=true
theorem zGG {l:Array Bool} {i:Nat} (h:l.getD i true=false):l.getD i false=false:=by
 rcases Nat.lt_or_ge i l.size with h'|h'
 ·simpa [zK,h'] using h
 ·simp [zK,yX h'] at h
theorem Dn.set {listed:Array Bool} (h:Dn ops listed) {i:Nat} (hi:i∈Region.ready .any ops listed):Dn ops (listed.setIfInBounds i true):=by
 intro j k hj hw
 have hres:listed.getD k false=true:=by
  by_cases e:i=j
  ·subst e;obtain ⟨_,o,ho,hall⟩:=mem_ready.1 hi;unfold waits at hw;rw [ho] at hw;obtain ⟨x,hx,hb⟩:=Array.any_eq_true'.1 hw;simp only [zA,beq_iff_eq] at hb;have:=hall x hx hb.1;rw [hb.2] at this;exact this
  ·have hj':listed.getD j false=true:=by
    simp only [zK,qR,if_neg e] at hj ⊢;exact hj
   exact h j k hj' hw
 simp only [zK,qR] at hres ⊢;split
 ·rename_i e;subst e;split
  ·rfl
  ·rename_i hlt;rw [yX (by omega)] at hres;simp at hres
 ·exact hres
theorem zLE {listed:Array Bool} (h:Dn ops listed) {i:Nat} : ∀ (n:Nat) (acc:List Nat),(∀ a∈acc,∀ m,waits ops a m=true->listed.getD m false=true)->twl ops i n acc=true->listed.getD i false=true
 | 0,_,_,ht=>by cases ht
 | n + 1,acc,ha,ht=>by
   simp only [twl] at ht;split at ht
   ·rename_i hany;obtain ⟨a,haa,hw⟩:=z4W.1 hany;have hl:=ha a haa _ hw;rw [yO] at ht;rcases ht with e|ht
    ·have:=zC e;subst this;exact hl
    ·exact zLE h n _ (fun b hb m hm=>by
      rcases zP.1 hb with rfl|hb
      ·exact h _ m hl hm
      ·exact ha b hb m hm) ht
   ·exact zLE h n acc ha ht
theorem zDd {listed:Array Bool} (h:Dn ops listed) {j i:Nat} (ht:zDN ops j i=true) (hj: ∀ (o:Oper),ops[j]? =some o->∀ e∈o.after,Region.binds .any e=true->listed.getD e.on false=true):listed.getD i false=true :=
 zLE h _ _ (fun a ha m hm=>by
  obtain rfl:=zD.1 ha;unfold waits at hm;split at hm
  ·rename_i o ho;obtain ⟨x,hx,hb⟩:=Array.any_eq_true'.1 hm;simp only [zA,beq_iff_eq] at hb;have:=hj o ho x hx hb.1;rw [hb.2] at this;exact this
  ·cases hm) ht
theorem zKS (hY:zYl Y ops) {k:Nat} {ef:Fr} {i:Nat} {oi:Oper} {v:AV} (hi:ops[i]? =some oi) (hik:i<k): ∀ (m:Nat) (listed:Array Bool) (e:Fr),
 (∀ (j:Nat) (oj:Oper),ops[j]? =some oj->j≠i->listed.getD j true=false->zDN ops j i=true\/(j<k/\oi.apart ops oj=true))->Dn ops listed->
 i∈Region.ready .any ops listed->Y i oi v e->zIP Y ops k ef m (listed.setIfInBounds i true) (upd e oi.dst v)->zIP Y ops k ef (m+1) listed e:=by
 intro m
 induction m with
 | zero =>
   intro listed e hfree hdn hr hy H;refine ⟨(fun h=>by rw [h] at hr;cases hr),fun j hj=> ?_⟩
   by_cases hji:j=i
   ·subst hji;exact ⟨hik,oi,v,hi,hy,H⟩
   ·obtain ⟨hjun,oj,hoj,hall⟩:=mem_ready.1 hj
    have hnot:j<k/\oi.apart ops oj=true:=by
     rcases hfree j oj hoj hji hjun with ht|h
     ·have h1:=zDd hdn ht fun o ho=>by rw [hoj] at ho;cases ho;exact hall
      rw [zGG (mem_ready.1 hr).1] at h1;cases h1
     ·exact h
    have hjk:=hnot.1;have:=H.1 j hjk;rw [getD_set_ne true (Ne.symm hji)] at this;rw [this] at hjun;cases hjun
 | succ m ih =>
   intro listed e hfree hdn hr hy H;refine ⟨(fun h=>by rw [h] at hr;cases hr),fun j hj=> ?_⟩
   by_cases hji:j=i
   ·subst hji;exact ⟨hik,oi,v,hi,hy,H⟩
   ·obtain ⟨hjk',h1⟩:=H.2 j (ready_mono hj hji);obtain ⟨hjun,oj,hoj,hall⟩:=mem_ready.1 hj
    have hnot:j<k/\oi.apart ops oj=true:=by
     rcases hfree j oj hoj hji hjun with ht|h
     ·have h1:=zDd hdn ht fun o ho=>by rw [hoj] at ho;cases ho;exact hall
      rw [zGG (mem_ready.1 hr).1] at h1;cases h1
     ·exact h
    obtain ⟨hjk,hap⟩:=hnot;have h2:=zQg hY hoj hap hy h1
    have hfree': ∀ (l:Nat) (ol:Oper),ops[l]? =some ol->l≠i->(listed.setIfInBounds j true).getD l true=false->
     zDN ops l i=true\/(l<k/\oi.apart ops ol=true):=fun l ol hl hli hun=>by
     refine hfree l ol hl hli ?_
     by_cases hjl:j=l
     ·subst hjl;exact hjun
     ·rw [getD_set_ne true hjl] at hun;exact hun
    refine ⟨hjk,zNv (fun e' h3=>ih (listed.setIfInBounds j true) e' hfree' (hdn.set hj) (ready_mono hr (Ne.symm hji)) h3.1 ?_) h2⟩;rw [Array.setIfInBounds_comm _ _ hji];exact h3.2
def zGr (Y:Nat->Oper->AV->Fr->Prop) (ef:Fr):Nat->List Oper->Fr->Prop
 | _,[],e=>e=ef
 | i,o::l,e=> ∃ v,Y i o v e/\zGr Y ef (i+1) l (upd e o.dst v)
def zLP (ops:Array Oper) (k:Nat) (listed:Array Bool) (i:Nat):Bool :=
 match ops[i]? with
 | none=>false
 | some oi=>(List.range ops.size).all fun j=>j==i|| listed.getD j true|| match ops[j]? with
    | some oj=>zDN ops j i|| (Nat.blt j k&&oi.apart ops oj)
    | none=>true
def zLM (ops:Array Oper) (k:Nat):Nat->Nat->Array Bool->Bool
 | 0,_,_=>true
 | m+1,i,listed=>(Region.ready .any ops listed).contains i&&zLP ops k listed i&&zLM ops k m (i+1) (listed.setIfInBounds i true)
theorem zL6 {k i:Nat} {oi:Oper} {listed:Array Bool} (hi:ops[i]? =some oi) (h:zLP ops k listed i=true) (j:Nat) (oj:Oper)
 (hj:ops[j]? =some oj) (hne:j≠i) (hun:listed.getD j true=false):zDN ops j i=true\/(j<k/\oi.apart ops oj=true):=by
 simp only [zLP,hi,zO,zW] at h;have h1:=h j (zR.1 hj).1;simp only [hj,yO,beq_iff_eq,hne,false_or,hun,Bool.false_eq_true] at h1;rcases h1 with h1|h1
 ·exact .inl h1
 ·rw [zA] at h1;exact .inr ⟨Nat.lt_of_succ_le (by simpa [Nat.blt] using h1.1),h1.2⟩
theorem zHs (hY:zYl Y ops) {k:Nat} {ef:Fr} : ∀ (l:List Oper) (i:Nat) (listed:Array Bool) (e:Fr),i+l.length=k->(∀ j:Nat,j<l.length->l[j]? =ops[i+j]?)->(∀ j,j<i->listed.getD j true=true)->
 zLM ops k l.length i listed=true->Dn ops listed->zGr Y ef i l e->zIP Y ops k ef l.length listed e
 | [],i,listed,e,hk,_,hlis,_,_,h=>⟨fun j hj=>hlis j (by simp at hk;omega),h⟩
 | o ::l,i,listed,e,hk,hl,hlis,hB,hdn,h=>by
   have h0:ops[i]? =some o:=by simpa using (hl 0 (by simp)).symm
   simp only [zZ,zLM,zA] at hB;obtain ⟨⟨hr,hf⟩,hB'⟩:=hB;obtain ⟨v,hy,hK⟩:=h;simp only [zZ] at hk
   refine zKS hY h0 (by omega) l.length listed e (zL6 h0 hf) hdn (by simpa using hr) hy (zHs hY l (i+1) _ _ (by omega) (fun j hj=>by
    have:=hl (j+1) (by simp;omega);simpa [zAP,Nat.add_comm 1 j] using this) (fun j hj=> ?_) hB' (hdn.set (by simpa using hr)) hK)
   by_cases hji:i=j
   ·subst hji;rcases Nat.lt_or_ge i listed.size with h'|h'
    ·simp [h']
    ·simp [yX (show (listed.setIfInBounds i true).size<=i by simpa using h')]
   ·rw [getD_set_ne true hji];exact hlis j (by omega)
end
end Go.Vm
namespace Go.Vm
open Go.RowKit
def AV.low (n:Nat):AV->Prop
 | .s a=>a.idsBelow n=true
 | .agg l=>l.all (AS.idsBelow n)=true
 | .tup _=>True
section
variable {P:Program} {T:Tab} {B:Base} {w:World} {I:Sig} {M:yN} {st:St} {tmps:Array Value} {hp hp':zAG} {nx:Nat}
theorem zCL {i m:Nat} (h:Nat.blt i m=true):i<m:=zU h
theorem z02 {i m:Nat} (h:i<m):Nat.blt i m=true:=Nat.ble_eq_true_of_le h
theorem y7.low {a:AS} {v:Value} (h:y7 I M a v):a.idsBelow M.length=true:=by
 have key: ∀ {id:Nat} {q:Option Bk},M[id]? =some q->Nat.blt id M.length=true:=fun {id q} e=>z02 (zG.1 e).1;cases a with
 | own id s n =>
   simp only [y7] at h;cases e:M[id]? with
   | none=>simp [e] at h
   | some q=>exact key e
 | ptr=>obtain ⟨q,e,_⟩:=h;exact key e
 | pti=>obtain ⟨q,e,_⟩:=h;exact key e
 | omp=>obtain ⟨q,e,_⟩:=h;exact key e
 | arr=>obtain ⟨q,e,_⟩:=h;exact key e
 | _=>rfl
theorem zH8: ∀ {l:List AS} {ds:List Value},jZ (y7 I M) l ds->l.all (AS.idsBelow M.length)=true
 | [],[],_=>rfl
 | _::_,_::_,h=>by simp only [qS,zA];exact ⟨h.1.low,zH8 h.2⟩
 | [],_::_,h=>h.elim
 | _::_,[],h=>h.elim
theorem qA.low {a:AV} {v:Value} (h:qA I M a v):a.low M.length:=by
 cases a with
 | s a=>exact y7.low h
 | agg l=>obtain ⟨ds,_,r⟩:=h;exact zH8 r
 | tup l=>trivial
def AS.okP (Pr:Nat->Bool):AS->Bool
 | .own i _ _=>Pr i
 | .ptr i _ _=>Pr i
 | .pti i _ _=>Pr i
 | .omp i=>Pr i
 | .arr i _=>Pr i
 | _=>true
def AV.okP (Pr:Nat->Bool):AV->Prop
 | .s a=>a.okP Pr=true
 | .agg l=>l.all (AS.okP Pr)=true
 | .tup _=>True
def zF3 (Pr:Nat->Bool) (hp hp':zAG):Prop:= ∀ id,Pr id=true->hget hp' id=hget hp id
section
variable {Pr:Nat->Bool}
theorem zF3.p (h:zF3 Pr hp hp') {id:Nat} (hx:Pr id=true):hgp hp' id=hgp hp id:=by unfold hgp;rw [h id hx]
theorem zVL {id:Nat} {t:TypeId} {cs:List AS} (h:hgp hp id=some (.flat t cs)):hget hp id=some (.flat t cs):=by
 obtain ⟨o,h1,h2⟩:=zFa h;cases o<;>simp only [Ob.pln] at h2
 ·cases h2
 ·cases h2;exact h1
 ·cases h2
 ·cases h2
 ·cases h2
 ·cases h2
theorem zNg {t:TypeId} {x:AV} (hx:x.okP Pr) (h:zF3 Pr hp hp'):zK8 T t hp' x=zK8 T t hp x:=by
 cases x with
 | s a=>cases a<;>simp only [zK8]<;>cases T.info t<;>first|rfl|(have e:=h.p hx;simp only [e])|(rename_i o _;cases o<;>rfl)
 | _=>rfl
theorem zHH {t:TypeId} {x i:AV} {lit:Bool} (hx:x.okP Pr) (h:zF3 Pr hp hp'):zAl T t hp' x i lit=zAl T t hp x i lit:=by
 cases x with
 | s a =>
   cases i with
   | s i =>
     cases i with
     | int k i =>
       simp only [zAl];cases T.desc t with
       | array n u =>
         simp only;cases lit with
         | true=>rfl
         | false =>
           simp only;generalize T.sizeOf u=m
           match m with
           | 0=>rfl
           | m+2=>rfl
           | 1 =>
             cases a with
             | ip e x k=>cases k<;>rfl
             | ptr id j k =>
               cases k with
               | zero=>have e:=h.p hx;simp only [e]
               | succ k=>rfl
             | _=>rfl
       | slice u =>
         simp only;cases a with
         | own id s n=>have e:=h.p hx;simp only [e]
         | _=>rfl
       | _=>rfl
     | _=>rfl
   | _=>rfl
 | _=>rfl
theorem zMo {t:TypeId} {x:AV} {lo hi:Option AV} (hx:x.okP Pr) (h:zF3 Pr hp hp'):zJi T t hp' x lo hi=zJi T t hp x lo hi:=by
 unfold zJi;split
 ·rfl
 ·have e:=h.p hx;simp only [e]
 ·have e:=h.p hx;simp only [e]
 ·rfl
theorem zNX {a:AS} (hx:a.okP Pr=true) (h:zF3 Pr hp hp'):zRC hp' a=zRC hp a:=by
 cases a<;>simp only [zRC]<;>(have e:=h.p hx;simp only [e])
theorem zL3 {t:TypeId} {x key:AV} {c:Bool} (hx:x.okP Pr) (h:zF3 Pr hp hp'):zGW T t hp' x key c=zGW T t hp x key c:=by
 cases x with
 | s a=>simp only [zGW];cases key.flat<;>cases T.desc t<;>simp only [zNX hx h]
 | _=>rfl
theorem zGb {a:AS} (hx:a.okP Pr=true) (h:zF3 Pr hp hp'):view hp' a=view hp a:=by
 cases a with
 | ptr id i k=>cases k with
   | zero=>simp only [view];rw [h.p hx]
   | succ k=>rfl
 | own=>simp only [view];rw [h.p hx]
 | omp=>simp only [view];rw [h.p hx]
 | _=>rfl
def zHz (Pr:Nat->Bool) (hp:zAG):Prop:= ∀ id t cs,Pr id=true->hget hp id=some (.flat t cs)->cs.all (AS.okP Pr)=true
theorem zIQ {a:AS} (hx:a.okP Pr=true) (h:zF3 Pr hp hp') (hf:zHz Pr hp):viewT T hp' a=viewT T hp a:=by
 unfold viewT;split
 ·rename_i id;have e:=h.p (show Pr id=true from hx);rw [e];split
  ·rename_i t cs hid;have hm:cs.map (view hp')=cs.map (view hp):=zAQ fun a ha=>zGb (zO.1 (hf _ _ _ hx (zVL hid)) a ha) h;rw [hm]
  ·exact zGb hx h
 ·have e:=h.p (show Pr _=true from hx);rw [e]
 ·exact zGb hx h
theorem zK4 {a:AV} (hx:a.okP Pr) (h:zF3 Pr hp hp') (hf:zHz Pr hp):a.viewT T hp'=a.viewT T hp:=by
 cases a with
 | s a=>simp only [AV.viewT];rw [zIQ hx h hf]
 | agg l =>
   simp only [AV.viewT,AV.agg.injEq];exact zAQ fun a ha=>zIQ (zO.1 hx a ha) h hf
 | tup l=>rfl
theorem zO7 {d:TypeDesc} {a:AV} (hx:a.okP Pr) (h:zF3 Pr hp hp'):lenOf hp' d a=lenOf hp d a:=by
 unfold lenOf;split<;>first|rfl|(have e:=h.p hx;simp only [e])
theorem zHv {c:Callee} {ts:List TypeId} {vs:List AV} (hx: ∀ v∈vs,v.okP Pr) (h:zF3 Pr hp hp') (hf:zHz Pr hp):zFU T hp' c ts vs=zFU T hp c ts vs:=by
 have hv:vs.map (AV.viewT T hp')=vs.map (AV.viewT T hp):=zAQ fun a ha=>zK4 (hx a ha) h hf;unfold zFU;split
 ·split
  ·rw [zO7 (hx _ (by simp)) h]
  ·rfl
 ·rfl
 ·rfl
 ·simp only [hv]
 ·rfl
theorem zI3 {op:Op} {ev:Operand->AV} (hx: ∀ x∈op.operands,(ev x).okP Pr) (h:zF3 Pr hp hp') (hf:zHz Pr hp):zAh T op ev hp'=zAh T op ev hp:=by
 cases op<;>simp only [zAh]<;>simp only [Op.operands] at hx
 case load t x=>exact zNg (hx x (by simp)) h
 case slice t x lo hi mx =>
  cases mx with
  | some _=>rfl
  | none=>exact zMo (hx x (by simp)) h
 case indexAddr t x i=>exact zHH (hx x (by simp)) h
 case lookup t x i c=>exact zL3 (hx x (by simp)) h
 case call c =>
  have hargs: ∀ v∈c.args.toList.map ev,v.okP Pr:=fun v hv=>by
   obtain ⟨x,hx',rfl⟩:=zS.1 hv;exact hx x (by simp [Call.operands];right;simpa using hx')
  split
  ·rename_i f ps hclo;refine zHv (fun v hv=> ?_) h hf;rcases zY.1 hv with hv|hv
   ·exact hargs v hv
   ·unfold zUz at hclo;split at hclo
    ·split at hclo
     ·cases hclo;obtain ⟨q,_,rfl⟩:=zS.1 hv;rfl
     ·cases hclo
    ·cases hclo
  ·exact zHv hargs h hf
end
theorem AS.okP_low {a:AS} (h:a.idsBelow nx=true):a.okP (fun i=>Nat.blt i nx)=true:=by cases a<;>exact h
theorem AV.okP_low {a:AV} (h:a.low nx):a.okP (fun i=>Nat.blt i nx):=by
 cases a with
 | s a=>exact AS.okP_low h
 | agg l=>exact zO.2 fun a ha=>AS.okP_low (zO.1 h a ha)
 | tup l=>trivial
theorem zQ0 {op:Op} {ev:Operand->AV} (hx: ∀ x∈op.operands,(ev x).low nx) (h:z00 nx hp hp') (hf:zHz (fun i=>Nat.blt i nx) hp):zAh T op ev hp'=zAh T op ev hp :=
 zI3 (Pr:=fun i=>Nat.blt i nx) (fun x hx'=>AV.okP_low (hx x hx')) (fun id hid=>h id (zCL hid)) hf
theorem GG.flatOk {hp:zAG} {env:Env} {nx:Nat} (h:GG B I M ⟨env,hp,nx⟩ tmps w):zHz (fun i=>Nat.blt i nx) hp:=fun id t cs _ hid=>by
 obtain ⟨p,_,_,_,_,_,c,_,q6⟩:=h.mem.ob _ _ hid;have:=zH8 q6;rw [h.len] at this;exact zO.2 fun a ha=>AS.okP_low (zO.1 this a ha)
def dead:Option Bk:=some ⟨0,1,0,0,0⟩
theorem y7.revive {id:Nat} (hd:M[id]? =some dead) (q:Option Bk) {a:AS} {v:Value} (h:y7 I M a v):y7 I (M.set id q) a v:=by
 have key: ∀ {i:Nat},i≠id->(M.set id q)[i]? =M[i]? :=fun hi=>qP (Ne.symm hi);cases a with
 | own i s n =>
   simp only [y7] at h ⊢
   by_cases e:i=id
   ·subst e;rw [hd] at h;simp only [dead] at h;obtain ⟨a,cap,_,_,_,h1,_⟩:=h;omega
   ·rw [key e];exact h
 | ptr i j k =>
   obtain ⟨p,e,r,hl⟩:=h
   by_cases e':i=id
   ·subst e';rw [hd] at e;cases e;exact absurd hl (by simp)
   ·exact ⟨p,by rw [key e'];exact e,r,hl⟩
 | pti i j k =>
   obtain ⟨p,e,r,hl,hs⟩:=h
   by_cases e':i=id
   ·subst e';rw [hd] at e;cases e;exact absurd hl (by simp)
   ·exact ⟨p,by rw [key e'];exact e,r,hl,hs⟩
 | omp i =>
   obtain ⟨p,e,r,hl⟩:=h
   by_cases e':i=id
   ·subst e';rw [hd] at e;cases e;exact absurd hl (by simp)
   ·exact ⟨p,by rw [key e'];exact e,r,hl⟩
 | arr i n =>
   obtain ⟨p,e,r,hl,hs⟩:=h
   by_cases e':i=id
   ·subst e';rw [hd] at e;cases e;exact absurd hs (by simp)
   ·exact ⟨p,by rw [key e'];exact e,r,hl,hs⟩
 | _=>exact h
theorem zAt.revive {w':World} {id id':Nat} {ob:Ob} (hd:M[id]? =some dead) (hne:id'≠id) (q:Option Bk) (h:zAt I M w id' ob) (hk: ∀ p,M[id']? =some (some p)->w'.heap[p.b]? =w.heap[p.b]?) (hkn: ∀ b o,I b=some o->w'.heap[b]? =w.heap[b]?):zAt I (M.set id q) w' id' ob:=by
 have key:(M.set id q)[id']? =M[id']? :=qP (Ne.symm hne);cases ob with
 | row e T xs =>
   obtain ⟨h0,h⟩:=h;refine ⟨h0,?_⟩;rw [key];cases hβ:M[id']? with
   | none=>simp [hβ] at h
   | some x =>
     cases x with
     | none=>simpa [hβ] using h
     | some p =>
       simp only [hβ] at h ⊢;obtain ⟨h1,h2,h3,c,h4,h5⟩:=h;exact ⟨h1,h2,h3,c,by rw [hk p hβ];exact h4,h5⟩
 | flat T cs =>
   obtain ⟨p,h1,h2,h3,h4,h5,c,h6,h7⟩:=h;exact ⟨p,by rw [key];exact h1,h2,h3,h4,h5,c,by rw [hk p h1];exact h6,h7.mono fun _ _=>y7.revive hd q⟩
 | map k v m =>
   obtain ⟨h0,p,es,clock,h1,h2,h3⟩:=h;exact ⟨h0,p,es,clock,by rw [key];exact h1,by rw [hk p h1];exact h2,h3⟩
 | gmap k e m =>
   obtain ⟨h0,p,es,clock,h1,h2,h3,h4,h5,h6⟩:=h;exact ⟨h0,p,es,clock,by rw [key];exact h1,by rw [hk p h1];exact h2,h3,h4,h5.keep (fun _ _ e=>e) hkn,h6⟩
 | grow e T xss =>
   obtain ⟨h0,p,h1,h2,h3,h4,c,h5,h6,h7,h8⟩:=h;exact ⟨h0,p,by rw [key];exact h1,h2,h3,h4,c,by rw [hk p h1];exact h5,h6,h7,h8.keep (fun _ _ e=>e) hkn⟩
 | fr X l=>exact ⟨by rw [key];exact h.1,fun t=>(h.2 t).map fun _ _=>y7.revive hd q⟩
theorem GG.free (h:GG B I M st tmps w):GG B I (M++[dead]) {st with next:=st.next+1} tmps w:=by
 have hold: ∀ {id:Nat},id<st.next->(M++[dead])[id]? =M[id]? :=fun hi=>by rw [yF];rw [h.len];exact hi
 refine ⟨⟨h.mem.ag,fun id ob hi=>(h.mem.ob _ _ hi).keep dead (fun _ _=>rfl) fun _ _ _=>rfl⟩,fun t=>(h.env t).more dead,by simp [h.len],fun id ob p hi hp=> ?_,h.bel,h.grew⟩;rw [hold (h.id_lt hi)] at hp;obtain ⟨s1,s2,s3⟩:=h.sep _ _ _ hi hp;refine ⟨s1,s2,fun id' ob' p' hne hi' hp'=> ?_⟩;rw [hold (h.id_lt hi')] at hp';exact s3 _ _ _ hne hi' hp'
theorem GG.frees (h:GG B I M st tmps w): ∀ m:Nat,∃ β',GG B I β' {st with next:=st.next+m} tmps w/\∀ j,j<m->β'[st.next+j]? =some dead
 | 0=>⟨M,h,fun j hj=>by omega⟩
 | m+1=>by
   obtain ⟨β',h1,h2⟩:=GG.frees h m;refine ⟨_,h1.free,fun j hj=> ?_⟩;have hl:β'.length=st.next+m:=h1.len
   by_cases e:j=m
   ·subst e;rw [<- hl];simp
   ·rw [yF (by omega)];exact h2 j (by omega)
theorem GG.revive (h:GG B I M st tmps w) {id:Nat} (hdd:M[id]? =some dead) {d:Option Tmp} (hd:zBM d tmps) {t:TypeId} {cs:List AS} {c:Array Value} (hc:jZ (y7 I M) cs c.toList) :
 GG B I (M.set id (some ⟨w.heap.size,0,cs.length,cs.length,1⟩)) (({st with hp:=(id,.flat t cs)::st.hp} :St).put d (.s (.ptr id 0 0))) (zHM tmps d (.pointer (some ⟨w.heap.size,0,none⟩))) (w.alloc (.cells c t)):=by
 have hid:id<M.length:=(zG.1 hdd).1;have hlast:(M.set id (some ⟨w.heap.size,0,cs.length,cs.length,1⟩))[id]? =some (some (⟨w.heap.size,0,cs.length,cs.length,1⟩:Bk)):=by simp [hid]
 have hold: ∀ {i:Nat},i≠id->(M.set id (some ⟨w.heap.size,0,cs.length,cs.length,1⟩))[i]? =M[i]? :=fun hi=>qP (Ne.symm hi);have hsig: ∀ b o,I b=some o->b<w.heap.size:=fun b o e=>h.mem.ag.lt e;have hw: ∀ k,k<w.heap.size->(w.alloc (.cells c t)).heap[k]? =w.heap[k]? :=fun k hk=>Go.heap_alloc_old w _ hk;refine GG.put (st:= {st with hp:=(id,.flat t cs)::st.hp}) ⟨⟨fun b o e=> ?_,fun id' ob' hi=> ?_⟩,fun t=>(h.env t).map fun _ _=>y7.revive hdd _,by simp [h.len],fun id' ob' p hi hp=> ?_,h.bel.trans ((Below.refl _ w).alloc h.bel.size _),h.grew⟩ hd ⟨_,hlast,by simp,by simp⟩
 ·rw [hw b (hsig b o e)];exact h.mem.ag _ _ e
 ·simp only [yB] at hi;split at hi
  ·rename_i e;subst e;cases hi;exact ⟨_,hlast,rfl,rfl,rfl,rfl,c,Go.heap_alloc_new w _,hc.mono fun _ _=>y7.revive hdd _⟩
  ·rename_i hne;exact (h.mem.ob _ _ hi).revive hdd (Ne.symm hne) _ (fun p hp=>hw _ ((h.mem.ob _ _ hi).lt hp)) fun b o e=>hw b (hsig b o e)
 ·simp only [yB] at hi;split at hi
  ·rename_i e;subst e;rw [hlast] at hp;cases hp;refine ⟨?_,h.bel.size,fun id2 ob2 p2 hne hi2 hp2=> ?_⟩
   ·cases e:I w.heap.size with
    | none=>rfl
    | some o=>have:=hsig _ _ e;omega
   ·simp only [yB] at hi2;rw [if_neg (Ne.symm hne)] at hi2;rw [hold hne] at hp2;have:=(h.mem.ob _ _ hi2).lt hp2;simp only;omega
  ·rename_i hne;rw [hold (Ne.symm hne)] at hp;obtain ⟨s1,s2,s3⟩:=h.sep _ _ _ hi hp;refine ⟨s1,s2,fun id2 ob2 p2 hne2 hi2 hp2=> ?_⟩;simp only [yB] at hi2;split at hi2
   ·rename_i e;subst e;rw [hlast] at hp2;cases hp2;have:=(h.mem.ob _ _ hi).lt hp;simp only;omega
   ·rename_i hne';rw [hold (Ne.symm hne')] at hp2;exact s3 _ _ _ hne2 hi2 hp2
theorem GG.congr {env env':Env} (h:GG B I M ⟨env,hp,nx⟩ tmps w) (he:qQ env=qQ env') (hh: ∀ id,hget hp id=hget hp' id):GG B I M ⟨env',hp',nx⟩ tmps w:=by
 refine ⟨⟨h.mem.ag,fun id ob hi=>h.mem.ob id ob (by rw [hh];exact hi)⟩,fun t=> ?_,h.len,fun id ob p hi hp=> ?_,h.bel,h.grew⟩
 ·show qA I M (qQ env' t) _;rw [<- he];exact h.env t
 ·obtain ⟨s1,s2,s3⟩:=h.sep id ob p (by rw [hh];exact hi) hp;exact ⟨s1,s2,fun id' ob' p' hne hi' hp'=>s3 id' ob' p' hne (by rw [hh];exact hi') hp'⟩
end
end Go.Vm
