/- The frame of a law: its arguments, read, are data; behind the call they read as before. -/
import Derived.Test.YtbfghjbhfgbdnaaVmCode2toVmKit
import Derived.Carry
import Derived.OpenShut
import Derived.SizedLaws
import Derived.Deep.Slices
set_option linter.unusedSimpArgs false
set_option linter.unusedVariables false
set_option maxHeartbeats 8000000
set_option maxRecDepth 100000
namespace Go.Vm
open Go.RowKit Go.ChangeShapes Go.WideShapes
section
variable {H:Type} {enc:TypeId×Value->H} {P:Program} {w:World}
def zLp (P:Program):Nat->List Field->Nat->Prop
 | o,[],m=>o=m
 | o,f::r,m=>f.offset=o/\zLp P (o+P.cellsOf f.type) r m
def zIn (P:Program) (s:TypeId) (ts:List TypeId):Prop :=
 (∃ fs,P.underlying s=some (.struct fs)/\fs.toList.map (·.type)=ts/\zLp P 0 fs.toList (P.cellsOf s))\/
 (∃ n u,P.underlying s=some (.array n u)/\ts=List.replicate n u/\P.cellsOf s=n*P.cellsOf u)
def TyL (P:Program):ETy->List TypeId->Prop
 | .int k,ts=> ∃ t,ts=[t]/\P.underlying t=some (.int k)/\P.cellsOf t=1
 | .bool,ts=> ∃ t,ts=[t]/\P.underlying t=some .bool/\P.cellsOf t=1
 | .arr2,ts=> ∃ t u,ts=[t]/\P.underlying t=some (.array 2 u)/\P.underlying u=some (.int .i64)/\P.cellsOf u=1/\P.cellsOf t=2
 | .arr3,ts=> ∃ t u,ts=[t]/\P.underlying t=some (.array 3 u)/\P.underlying u=some (.int .i64)/\P.cellsOf u=1/\P.cellsOf t=3
 | .pair a b,ts=> ∃ t r,(ts=t::r\/∃ s,ts=[s]/\zIn P s (t::r))/\r≠[]/\TyL P a [t]/\TyL P b r
 | .sl e,ts=> ∃ t u,ts=[t]/\P.underlying t=some (.slice u)/\P.cellsOf u=e.size/\0<e.size/\0<P.bytesOf u/\TyL P e [u]/\P.cellsOf t=1
 | .pt e,ts=> ∃ t u,ts=[t]/\P.underlying t=some (.pointer u)/\P.cellsOf u=e.size/\0<e.size/\TyL P e [u]/\P.cellsOf t=1
 | .mp _ _,_=>False
 | .unit,_=>False
 | .fnc,_=>False
def zIs (enc:TypeId×Value->H) (P:Program) (w:World):List TypeId->List Value->Prop
 | [],cs=>cs=[]
 | t::r,cs=>(∃ n x,DataW.trod enc P w 0 (fun _=>true) true n t (cs.take (P.cellsOf t))=some x/\(x.1.weights P t).all (·<=reachBytes)=true)/\zIs enc P w r (cs.drop (P.cellsOf t))
theorem zIs.one {t:TypeId} {cs:List Value} (h:zIs enc P w [t] cs): ∃ n x,DataW.trod enc P w 0 (fun _=>true) true n t cs=some x/\(x.1.weights P t).all (·<=reachBytes)=true:=by
 obtain ⟨⟨n,x,h1,h2⟩,h3⟩:=h;have h3:cs.drop (P.cellsOf t)=[]:=h3
 have:cs.take (P.cellsOf t)=cs:=by
  have:=zAU (P.cellsOf t) cs;rw [h3,yW] at this;exact this
 rw [this] at h1;exact ⟨n,x,h1,h2⟩
theorem zGl {n:Nat} {cs:List Value} {m:Nat} (hm:cs.length=m): ∀ (fs:List Field) (xs:List (DataW H×List MemPlace)) (o:Nat),xs.length=fs.length->zLp P o fs m->
 (∀ (i:Nat) (f:Field),fs[i]? =some f->DataW.trod enc P w 0 (fun _=>true) true n f.type ((cs.drop f.offset).take (P.cellsOf f.type))=xs[i]?)->
 (DataW.weightsEach P (fs.map (·.type)) (xs.map (·.1))).all (·<=reachBytes)=true->zIs enc P w (fs.map (·.type)) (cs.drop o)
 | [],_,o,_,ho,_,_=>by
   have ho:o=m:=ho;show cs.drop o=[];exact jS (by omega)
 | f::fs,[],_,hl,_,_,_=>by simp at hl
 | f ::fs,x::xs,o,hl,ho,hx,hw=>by
   obtain ⟨ho1,ho2⟩:=ho;simp only [jV,DataW.weightsEach,List.all_append,zA] at hw;refine ⟨⟨n,x,?_,hw.1⟩,?_⟩
   ·have:=hx 0 f rfl;rw [ho1] at this;simpa using this
   ·rw [List.drop_drop];exact zGl hm fs xs _ (by simpa using hl) ho2 (fun i g hg=>by have:=hx (i+1) g (by simpa using hg);simpa using this) hw.2
theorem zIw {n:Nat} {u:TypeId} {cs:List Value} : ∀ (k:Nat) (xs:List (DataW H×List MemPlace)) (o:Nat),xs.length=k->cs.length=o+k*P.cellsOf u->
 (∀ (i:Nat),i<k->DataW.trod enc P w 0 (fun _=>true) true n u ((cs.drop (o+i*P.cellsOf u)).take (P.cellsOf u))=xs[i]?)->
 (DataW.weightsAll P u (xs.map (·.1))).all (·<=reachBytes)=true->zIs enc P w (List.replicate k u) (cs.drop o)
 | 0,_,o,_,ho,_,_=>by
   show cs.drop o=[];exact jS (by omega)
 | k+1,[],_,hl,_,_,_=>by simp at hl
 | k +1,x::xs,o,hl,ho,hx,hw=>by
   simp only [jV,DataW.weightsAll,List.all_append,zA] at hw;refine ⟨⟨n,x,?_,hw.1⟩,?_⟩
   ·have:=hx 0 (by omega);simpa using this
   ·show zIs enc P w (List.replicate k u) _;rw [List.drop_drop];refine zIw (n:=n) k xs _ (by simpa using hl) (by rw [ho,Nat.succ_mul];omega) (fun i hi=> ?_) hw.2;have:=hx (i+1) (by omega);rw [Nat.succ_mul] at this;rw [show o+P.cellsOf u+i*P.cellsOf u=o+(i*P.cellsOf u+P.cellsOf u) by omega];simpa using this
theorem zFN {s:TypeId} {ts:List TypeId} {cs:List Value} (hp:zIn P s ts) (h:zIs enc P w [s] cs):zIs enc P w ts cs:=by
 obtain ⟨n,x,h1,h2⟩:=h.one;cases hp with
 | inl hp =>
   obtain ⟨fs,hu,rfl,ho⟩:=hp;obtain ⟨xs,m,rfl,rfl,hl,hlen,hx⟩:=DataW.trod_struct hu h1;simp only [DataW.weights,hu] at h2;have:=zGl (enc:=enc) (w:=w) (n:=m) hl fs.toList xs 0 (by simpa using hlen) ho (fun i f hf=>hx i f (by simpa using hf)) h2;simpa using this
 | inr hp =>
   obtain ⟨k,u,hu,rfl,hc⟩:=hp;obtain ⟨xs,m,rfl,rfl,hl,hlen,hx⟩:=DataW.trod_array hu h1;simp only [DataW.weights,hu] at h2;have:=zIw (enc:=enc) (w:=w) (n:=m) (u:=u) (cs:=cs) k xs 0 hlen (by omega) (fun i hi=>by simpa using hx i hi) h2;simpa using this
theorem zJ1 {k:IntKind} {n:Int} (h:(Lit.int k n).wf=true):InK k n:=by
 simp only [Lit.wf,zA,zF] at h;obtain ⟨h1,h2⟩:=h;unfold InK IntKind.wrap;cases k<;>simp [IntKind.min,IntKind.max,IntKind.signed,IntKind.bits] at h1 h2 ⊢ <;>first|omega|(split<;>omega)
theorem zRN {a:Addr} {n:Nat} {cs:List Value} (h:w.cells? 0 a n=some cs) (hn:0<n): ∃ b o,a=⟨b,o,none⟩:=by
 obtain ⟨_,hl,hc⟩:=World.cells?_some h;have h0:=hc 0 hn;obtain ⟨v,hv⟩: ∃ v,cs[0]? =some v:=⟨cs[0],zB (by omega)⟩;rw [hv] at h0;have hs:a.spot=none:=by simpa [Addr.add] using World.cell?_spot h0
 obtain ⟨b,o,s⟩:=a;have hs:s=none:=hs;subst hs;exact ⟨b,o,rfl⟩
theorem zKB {b o n:Nat} {cs:List Value} {k:Nat} (h:w.cells? 0 ((⟨b,o,none⟩:Addr).add k) n=some cs) (hn:0<n):zCJ (zDh w) b (o+k) cs:=by
 rw [add_plain] at h;obtain ⟨_,hl,hc⟩:=World.cells?_some h;have hc: ∀ i,i<n->w.cell? ⟨b,o+k+i,none⟩=cs[i]? :=fun i hi=>by have:=hc i hi;rwa [add_plain] at this
 have h0:=hc 0 hn;rw [zB (by omega)] at h0;unfold World.cell? at h0;split at h0
 ·rename_i c T fz hb;refine ⟨c,T,fz,hb,fun j d hj=> ?_⟩
  have hj':j<n:=by
   rcases Nat.lt_or_ge j n with h|h
   ·exact h
   ·rw [zBx (by omega)] at hj;cases hj
  have h1:=hc j hj';unfold World.cell? at h1;have hb:w.heap[b]? =some (.cells c T fz):=hb;simp only [hb,Option.isSome_none,Bool.false_eq_true,if_false] at h1;rw [h1];exact hj
 ·cases h0
theorem zGu {u:TypeId} : ∀ {l:List (DataW H)} {d:DataW H},(DataW.weightsAll P u l).all (·<=reachBytes)=true->d∈l->(d.weights P u).all (·<=reachBytes)=true
 | d0::l,d,h,hd=>by
   simp only [DataW.weightsAll,List.all_append,zA] at h;cases zP.1 hd with
   | inl e=>subst e;exact h.1
   | inr e=>exact zGu h.2 e
theorem zSI: ∀ (e:ETy) (ts:List TypeId) (cs:List Value),TyL P e ts->zIs enc P w ts cs->∃ x:e.T,jI (zDh w) e x cs
 | .int k,ts,cs,ht,h=>by
   obtain ⟨t,rfl,hu,_⟩:=ht;obtain ⟨n,x,h1,_⟩:=h.one;obtain ⟨v,rfl,_,hw⟩:=DataW.trod_int hu h1;exact ⟨v,rfl,zJ1 hw⟩
 | .bool,ts,cs,ht,h=>by
   obtain ⟨t,rfl,hu,_⟩:=ht;obtain ⟨n,x,h1,_⟩:=h.one;obtain ⟨v,rfl,_⟩:=DataW.trod_bool hu h1;exact ⟨v,rfl⟩
 | .arr2,ts,cs,ht,h=>by
   obtain ⟨t,u,rfl,hu,hi,hc,hc'⟩:=ht;have h:=zFN (ts:=[u,u]) (.inr ⟨2,u,hu,rfl,by rw [hc,hc']⟩) h;obtain ⟨⟨n,x,h1,_⟩,⟨m,y,h2,_⟩,h3⟩:=h;have h3:(cs.drop _).drop _=[]:=h3;rw [hc] at h1 h2 h3;obtain ⟨v1,e1,_,w1⟩:=DataW.trod_int hi h1;obtain ⟨v2,e2,_,w2⟩:=DataW.trod_int hi h2
   match cs,e1,e2,h3 with
   | [a,b],e1,e2,_ =>
     simp at e1 e2;subst e1;subst e2;exact ⟨(v1,v2),rfl,zJ1 w1,zJ1 w2⟩
   | [],e1,_,_=>simp at e1
   | [a],_,e2,_=>simp at e2
   | _::_::_::_,_,_,h3=>simp at h3
 | .arr3,ts,cs,ht,h=>by
   obtain ⟨t,u,rfl,hu,hi,hc,hc'⟩:=ht;have h:=zFN (ts:=[u,u,u]) (.inr ⟨3,u,hu,rfl,by rw [hc,hc']⟩) h;obtain ⟨⟨n,x,h1,_⟩,⟨m,y,h2,_⟩,⟨k,z,h4,_⟩,h3⟩:=h;have h3:((cs.drop _).drop _).drop _=[]:=h3;rw [hc] at h1 h2 h3 h4;obtain ⟨v1,e1,_,w1⟩:=DataW.trod_int hi h1;obtain ⟨v2,e2,_,w2⟩:=DataW.trod_int hi h2;obtain ⟨v3,e3,_,w3⟩:=DataW.trod_int hi h4
   match cs,e1,e2,e3,h3 with
   | [a,b,c],e1,e2,e3,_ =>
     simp at e1 e2 e3;subst e1;subst e2;subst e3;exact ⟨(v1,v2,v3),rfl,zJ1 w1,zJ1 w2,zJ1 w3⟩
   | [],e1,_,_,_=>simp at e1
   | [a],_,e2,_,_=>simp at e2
   | [a,b],_,_,e3,_=>simp at e3
   | _::_::_::_::_,_,_,_,h3=>simp at h3
 | .pair a b,ts,cs,ht,h=>by
   obtain ⟨t,r,hts,hr,ha,hb⟩:=ht
   have h:zIs enc P w (t::r) cs:=by
    cases hts with
    | inl e=>rw [e] at h;exact h
    | inr e=>obtain ⟨s,rfl,hp⟩:=e;exact zFN hp h
   obtain ⟨h1,h2⟩:=h;obtain ⟨x,hx⟩:=zSI a [t] (cs.take (P.cellsOf t)) ha ⟨by rw [List.take_take,Nat.min_self];exact h1,by show List.drop _ _=[];simp⟩;obtain ⟨y,hy⟩:=zSI b r _ hb h2;exact ⟨(x,y),_,_,(zAU _ cs).symm,hx,hy⟩
 | .sl e,ts,cs,ht,h=>by
   obtain ⟨t,u,rfl,hu,hc,hpos,hby,he,_⟩:=ht;obtain ⟨n,x,h1,hw⟩:=h.one;rcases Deep.open_slice hu h1 with ⟨rfl,_⟩|⟨a,len,cap,m,n',D,Pl,rfl,_,hl,hcap,hm,rfl,hx⟩
   ·exact ⟨[],none,0,rfl,by simp,by simp,fun h=>(h rfl).elim⟩
   ·simp only [if_true] at hm;simp only [DataW.weights,hu,qS,List.all_append,zA,zF,z2,zDg] at hw;obtain ⟨hw1,hw2,_⟩:=hw
    have hlen:len<=140737488355328:=by
     have h1:=reachBytes_lt;have h2:len*1<=(len+(m - len))*P.bytesOf u:=Nat.mul_le_mul (by omega) hby;omega
    have key: ∀ i,i<len->∃ x:e.T,∃ cs',w.cells? 0 (a.add (i*e.size)) e.size=some cs'/\jI (zDh w) e x cs':=fun i hi=>by
     obtain ⟨cs',g1,g2⟩:=hx i (by omega);rw [hc] at g1;have hcl:cs'.length=e.size:=(World.cells?_some g1).2.1
     obtain ⟨x,hx⟩:=zSI e [u] cs' he ⟨⟨n',(D i,Pl i),by rw [hc,<- hcl,qJ];exact g2,zGu hw2 (zS.2 ⟨i,zW.2 hi,rfl⟩)⟩,by
      show List.drop _ _=[]
      exact jS (by omega)⟩
     exact ⟨x,cs',g1,hx⟩
    have:Inhabited e.T:=⟨e.dflt⟩;obtain ⟨f,hf⟩:=Deep.choose_lt key;refine ⟨(List.range len).map f,some a,cap,by simp,by simpa using hlen,by simpa using hl,fun hne=> ?_⟩
    have h0:0<len:=by
     rcases Nat.eq_zero_or_pos len with h|h
     ·subst h;simp at hne
     ·exact h
    obtain ⟨cs0,g0,_⟩:=hf 0 h0;obtain ⟨b,o,rfl⟩:=zRN (by simpa [Addr.add] using g0) hpos;refine ⟨b,o,rfl,fun i x hi=> ?_⟩;rw [zAB] at hi
    have hlt:i<len:=by
     rcases Nat.lt_or_ge i len with h|h
     ·exact h
     ·rw [zBx (by simpa using h)] at hi;simp at hi
    rw [List.getElem?_range hlt] at hi;simp at hi;subst hi;obtain ⟨cs',g1,g2⟩:=hf i hlt;exact ⟨cs',g2,zKB g1 hpos⟩
 | .pt e,ts,cs,ht,h=>by
   obtain ⟨t,u,rfl,hu,hc,hpos,he,_⟩:=ht;obtain ⟨n,x,h1,hw⟩:=h.one;rcases DataW.trod_pointer hu h1 with ⟨rfl,_⟩|⟨a,cs',y,m,rfl,rfl,rfl,g1,g2⟩
   ·exact ⟨none,rfl⟩
   ·simp only [DataW.weights,hu] at hw;rw [hc] at g1;have hcl:cs'.length=e.size:=(World.cells?_some g1).2.1
    obtain ⟨x,hx⟩:=zSI e [u] cs' he ⟨⟨m,y,by rw [hc,<- hcl,qJ];exact g2,hw⟩,by
     show List.drop _ _=[]
     exact jS (by omega)⟩
    obtain ⟨b,o,rfl⟩:=zRN g1 hpos;exact ⟨some x,b,o,cs',rfl,hx,by simpa using zKB (k:=0) (by simpa [Addr.add] using g1) hpos⟩
 | .mp _ _,_,_,ht,_=>ht.elim
 | .unit,_,_,ht,_=>ht.elim
 | .fnc,_,_,ht,_=>ht.elim
theorem zEE {t:TypeId} {ts:List TypeId} {v:Value} {r:Reach} {b0:Nat} (hp:zIn P t ts) (h:Value.okWide P w r b0 t v): ∃ cs,v= .agg cs:=by
 cases hp with
 | inl hp=>obtain ⟨fs,hu,_⟩:=hp;simp only [Value.okWide,hu] at h;exact ⟨h.choose,h.choose_spec.1⟩
 | inr hp=>obtain ⟨n,u,hu,_⟩:=hp;simp only [Value.okWide,hu] at h;exact ⟨h.choose,h.choose_spec.1⟩
theorem zLO {r:Reach} {b0:Nat} {t:TypeId} {v:Value} : ∀ {e:ETy},TyL P e [t]->Value.okWide P w r b0 t v->yY e v.cells.toList=v
 | .int k,ht,h=>by obtain ⟨_,e,hu,_⟩:=ht;cases e;obtain ⟨n,rfl⟩:=okWide_int hu h;rfl
 | .bool,ht,h=>by obtain ⟨_,e,hu,_⟩:=ht;cases e;obtain ⟨n,rfl⟩:=okWide_bool hu h;rfl
 | .sl _,ht,h=>by obtain ⟨_,_,e,hu,_⟩:=ht;cases e;obtain ⟨a,l,c,rfl⟩:=okWide_slice hu h;rfl
 | .pt _,ht,h=>by obtain ⟨_,_,e,hu,_⟩:=ht;cases e;obtain ⟨a,rfl⟩:=okWide_pointer hu h;rfl
 | .arr2,ht,h=>by
   obtain ⟨_,u,e,hu,_,hc,hc'⟩:=ht;cases e;obtain ⟨cs,rfl⟩:=zEE (.inr ⟨2,u,hu,rfl,by rw [hc,hc']⟩) h;simp [yY,Value.cells]
 | .arr3,ht,h=>by
   obtain ⟨_,u,e,hu,_,hc,hc'⟩:=ht;cases e;obtain ⟨cs,rfl⟩:=zEE (.inr ⟨3,u,hu,rfl,by rw [hc,hc']⟩) h;simp [yY,Value.cells]
 | .pair a b,ht,h=>by
   obtain ⟨t',r',hts,hr,_⟩:=ht;cases hts with
   | inl e=>cases e;exact absurd rfl hr
   | inr e =>
     obtain ⟨s,e,hp⟩:=e;cases e;obtain ⟨cs,rfl⟩:=zEE hp h;simp [yY,Value.cells]
 | .mp _ _,ht,_=>ht.elim
 | .unit,ht,_=>ht.elim
 | .fnc,ht,_=>ht.elim
theorem zES {t:TypeId} {ts:List TypeId} {n:Nat} {cs:List Value} {x:DataW H×List MemPlace} (hp:zIn P t ts) (h:DataW.trod enc P w 0 (fun _=>true) true n t cs=some x):cs.length=P.cellsOf t:=by
 cases hp with
 | inl hp=>obtain ⟨fs,hu,_⟩:=hp;obtain ⟨_,_,_,_,hl,_⟩:=DataW.trod_struct hu h;exact hl
 | inr hp=>obtain ⟨n,u,hu,_⟩:=hp;obtain ⟨_,_,_,_,hl,_⟩:=DataW.trod_array hu h;exact hl
theorem zO1 {n:Nat} {t:TypeId} {cs:List Value} {x:DataW H×List MemPlace} : ∀ {e:ETy},TyL P e [t]->DataW.trod enc P w 0 (fun _=>true) true n t cs=some x->cs.length=P.cellsOf t
 | .int k,ht,h=>by obtain ⟨_,e,hu,hc⟩:=ht;cases e;obtain ⟨n,rfl,_⟩:=DataW.trod_int hu h;exact hc.symm
 | .bool,ht,h=>by obtain ⟨_,e,hu,hc⟩:=ht;cases e;obtain ⟨n,rfl,_⟩:=DataW.trod_bool hu h;exact hc.symm
 | .sl _,ht,h=>by
   obtain ⟨_,_,e,hu,_,_,_,_,hc⟩:=ht;cases e;rcases Deep.open_slice hu h with ⟨rfl,_⟩|⟨a,len,cap,m,n',D,Pl,rfl,_⟩<;>exact hc.symm
 | .pt _,ht,h=>by
   obtain ⟨_,_,e,hu,_,_,_,hc⟩:=ht;cases e;rcases DataW.trod_pointer hu h with ⟨rfl,_⟩|⟨a,cs',y,m,rfl,rfl,_⟩<;>exact hc.symm
 | .arr2,ht,h=>by
   obtain ⟨_,u,e,hu,_,hc,hc'⟩:=ht;cases e;exact zES (.inr ⟨2,u,hu,rfl,by rw [hc,hc']⟩) h
 | .arr3,ht,h=>by
   obtain ⟨_,u,e,hu,_,hc,hc'⟩:=ht;cases e;exact zES (.inr ⟨3,u,hu,rfl,by rw [hc,hc']⟩) h
 | .pair a b,ht,h=>by
   obtain ⟨t',r',hts,hr,_⟩:=ht;cases hts with
   | inl e=>cases e;exact absurd rfl hr
   | inr e=>obtain ⟨s,e,hp⟩:=e;cases e;exact zES hp h
 | .mp _ _,ht,_=>ht.elim
 | .unit,ht,_=>ht.elim
 | .fnc,ht,_=>ht.elim
theorem trodAll_length {base:Nat} {sp:Nat->Bool} {hd:Bool} : ∀ {ts:List TypeId} {vals:List Value} {ds:List (DataW H)} {ps:List MemPlace},DataW.TrodAll enc P w base sp hd ts vals ds ps->ds.length=ts.length
 | [],_,_,_,h=>by obtain ⟨rfl,rfl,rfl⟩:=trodAll_nil h;rfl
 | _::_,_,_,_,h=>by
   obtain ⟨v,vs,d,ds',p,q,rfl,rfl,rfl,h1,h2⟩:=trodAll_cons h;simp [trodAll_length h2]
def zVU:List ETy->List AV->Prop
 | [],[]=>True
 | e::es,a::as=>(∃ x:e.T,a=e.av x)/\zVU es as
 | _,_=>False
def zWX (P:Program):List ETy->List TypeId->Prop
 | [],[]=>True
 | e::es,t::ts=>TyL P e [t]/\zWX P es ts
 | _,_=>False
theorem zQN: ∀ {es:List ETy} {ts:List TypeId} {vals:List Value} {ds:List (DataW H)} {ps:List MemPlace} {r:Reach} {b0:Nat},zWX P es ts->DataW.TrodAll enc P w 0 (fun _=>true) true ts vals ds ps->
 (DataW.weightsEach P ts ds).all (·<=reachBytes)=true->(∀ (j:Nat) t v,ts[j]? =some t->vals[j]? =some v->Value.okWide P w r b0 t v)->∃ as,zVU es as/\jL (zDh w) [] as vals
 | [],[],vals,ds,ps,_,_,_,h,_,_=>by
   obtain ⟨rfl,rfl,rfl⟩:=trodAll_nil h;exact ⟨[],trivial,trivial⟩
 | e ::es,t::ts,vals,ds,ps,r,b0,ht,h,hw,hv=>by
   obtain ⟨v,vs,d,ds',p,q,rfl,rfl,rfl,h1,h2⟩:=trodAll_cons h;simp only [DataW.weightsEach,List.all_append,zA] at hw;obtain ⟨as,ha,hr⟩:=zQN ht.2 h2 hw.2 (fun j t v e1 e2=>hv (j+1) t v e1 e2);have hok:=hv 0 t v rfl rfl;obtain ⟨n,h1⟩:=h1;have hlen:=zO1 ht.1 h1
   have hread:zIs enc P w [t] v.cells.toList:=⟨⟨n,(d,p),by rw [<- hlen,qJ];exact h1,hw.1⟩,by
    show List.drop _ _=[]
    rw [<- hlen,List.drop_length]⟩
   obtain ⟨x,hx⟩:=zSI e [t] _ ht.1 hread;have hrep:=ETy.av_rep (M:=[]) hx;rw [zLO ht.1 hok] at hrep;exact ⟨e.av x::as,⟨⟨x,rfl⟩,ha⟩,hrep,hr⟩
 | [],_::_,_,_,_,_,_,ht,_,_,_=>ht.elim
 | _::_,[],_,_,_,_,_,ht,_,_,_=>ht.elim
theorem zP6 {W W':World} (hl:laidOutB P=true) (hb:Below W.heap.size W W'): ∀ {ts:List TypeId} {vals:List Value} {ds:List (DataW H)} {ps:List MemPlace},(ts.all fun t=>P.readableRec t&&decide (t<P.types.size))=true->
 DataW.TrodAll enc P W 0 (fun _=>true) true ts vals ds ps->(∀ x∈ps,x.block<W.heap.size)->DataW.TrodAll enc P W' 0 (fun b=>decide (b<W.heap.size)) true ts vals ds ps
 | [],_,_,_,_,h,_=>by
   obtain ⟨rfl,rfl,rfl⟩:=trodAll_nil h;rfl
 | t::ts,_,_,_,hr,h,hp=>by
   obtain ⟨v,vs,d,ds',p,q,rfl,rfl,rfl,h1,h2⟩:=trodAll_cons h;simp only [qS,zA,zF] at hr;exact ⟨p,q,Below.trod hl hr.1.1 hr.1.2 h1 hb.toBelow (fun x hx=>hp x (zAF _ hx)),zP6 hl hb hr.2 h2 (fun x hx=>hp x (zA7 _ hx)),rfl⟩
end
theorem law_lifted {H:Type} {enc:TypeId×Value->H} {C:Checked} {os:Os} (started:os.Started) {f:FuncId} {fn:Func} {s:ChangeSpec} {conds:List PathCond} {es:List ETy} {tb:TypeId}
 (own:ownKnob C.prog.godebug=none) (noInit:C.prog.inits.idxOf? f=none) (hfn:C.prog.funcs[f]? =some fn) (hvars:s.vars=[]) (hlaid:laidOutB C.prog=true)
 (hread:(fn.params.toList.all fun t=>C.prog.readableRec t&&decide (t<C.prog.types.size))=true)
 (hty:zWX C.prog es fn.params.toList) (hres:fn.resultTypes= #[tb]) (hb:C.prog.underlying tb=some .bool)
 (hspec: ∀ ds:List (DataW H),ds.length=fn.params.size->s.fn H ds= {results:=[.lit (.bool true)],args:=ds})
 (hlaw: ∀ as,zVU es as->zDn C.prog f as (none,none,.s (.bool true)))
 (witness: ∃ (w:World) (tape:Tape) (i:Input),w.os=os/\(w.forCall tape i).Shaped C.prog/\i.vars=[]/\Input.okWide C.prog (w.forCall tape i) .any w.heap.size f i/\
   s.pre6 enc C.prog fn conds false (w.forCall tape i).memory i.args/\({} :Assume).holds C.prog (lone (Frame.enter C.prog f i.args .normal) [] (w.forCall tape i))) :
 ReturnsInHanded {} C os f .any (s.pre6 enc C.prog fn conds false) (s.post enc C.prog fn false true false false):=by
 refine returnsInHanded_of_change_sized own started noInit hfn witness ?_;intro W base args ds gs before hval hW _ hsz _;have hW':=hW;obtain ⟨p,q,hA,hV,rfl,hfz,hnd⟩:=hW;have hlt: ∀ x∈p++q,x.block<W.heap.size:=fun x hx=>by simpa using hW'.lt x hx
 rw [hvars] at hV;obtain ⟨rfl,rfl⟩:=trodVars_none hV
 have hsz:(DataW.weightsEach C.prog fn.params.toList ds).all (·<=reachBytes)=true:=by
  have e:s.plain.varTypes C.prog=[]:=by simp [ChangeSpec.plain,hvars,DataSpec.varTypes]
  rw [e,yW,yW] at hsz;exact hsz
 obtain ⟨as,ha,hr⟩:=zQN hty hA hsz (fun j t v e1 e2=>hval j t v (by simpa using e1) (by simpa using e2));have hlen:ds.length=fn.params.size:=by simpa using trodAll_length hA
 obtain ⟨_,hcall⟩:=hlaw as ha (zDh W) args.toList W (fun _ o h=>⟨o,h,.refl⟩) hr;have hcall:=hcall trivial;rw [Array.toArray_toList] at hcall;refine hcall.mono fun e W' h=> ?_;obtain ⟨v,σ',rfl,_,_,_,hv,hbel⟩:=h;obtain rfl:v= .bool true:=hv;refine ⟨_,rfl,ds,[],p++[],[],p,[],hW',?_,?_,?_,hbel.frame _,fun h=>by cases h⟩
 ·rw [yW,hspec ds hlen,hres];exact trodAll_cons_mk (shut_bool hb _) trodAll_mk0
 ·rw [yW,hspec ds hlen];exact zP6 hlaid hbel hread hA (fun x hx=>hlt x (by simpa using hx))
 ·rw [hvars,yW,hspec ds hlen];exact rfl
def zTg (P:Program):Nat->List Field->Nat->Bool
 | o,[],m=>o==m
 | o,f::r,m=>f.offset==o&&zTg P (o+P.cellsOf f.type) r m
theorem zQA {P:Program} : ∀ {l:List Field} {o m:Nat},zTg P o l m=true->zLp P o l m
 | [],_,_,h=>by simpa [zTg,zLp] using h
 | f::r,o,m,h=>by
   simp only [zTg,zA,beq_iff_eq] at h;exact ⟨h.1,zQA h.2⟩
def zRt (P:Program) (s:TypeId):List TypeId :=
 match P.underlying s with
 | some (.struct fs)=>match zTg P 0 fs.toList (P.cellsOf s) with
   | true=>fs.toList.map (·.type)
   | false=>[]
 | some (.array n u)=>match P.cellsOf s==n*P.cellsOf u with
   | true=>List.replicate n u
   | false=>[]
 | _=>[]
theorem zS5 {P:Program} {s:TypeId} {t:TypeId} {r:List TypeId} (h:zRt P s=t::r):zIn P s (t::r):=by
 unfold zRt at h;split at h
 ·rename_i fs hu;split at h
  ·rename_i ho;exact .inl ⟨fs,hu,h,zQA ho⟩
  ·cases h
 ·rename_i n u hu;split at h
  ·rename_i ho;exact .inr ⟨n,u,hu,h.symm,by simpa using ho⟩
  ·cases h
 ·cases h
def tyB (P:Program):ETy->List TypeId->Bool
 | .int k,[t]=>(match P.underlying t with|some (.int k')=>decide (k'=k)|_=>false)&&P.cellsOf t==1
 | .bool,[t]=>(match P.underlying t with|some .bool=>true|_=>false)&&P.cellsOf t==1
 | .arr2,[t]=>match P.underlying t with
   | some (.array 2 u)=>(match P.underlying u with|some (.int .i64)=>true|_=>false)&&P.cellsOf u==1&&P.cellsOf t==2
   | _=>false
 | .arr3,[t]=>match P.underlying t with
   | some (.array 3 u)=>(match P.underlying u with|some (.int .i64)=>true|_=>false)&&P.cellsOf u==1&&P.cellsOf t==3
   | _=>false
 | .sl e,[t]=>match P.underlying t with
   | some (.slice u)=>P.cellsOf u==e.size&&Nat.blt 0 e.size&&Nat.blt 0 (P.bytesOf u)&&tyB P e [u]&&P.cellsOf t==1
   | _=>false
 | .pt e,[t]=>match P.underlying t with
   | some (.pointer u)=>P.cellsOf u==e.size&&Nat.blt 0 e.size&&tyB P e [u]&&P.cellsOf t==1
   | _=>false
 | .pair a b,t::u::r=>tyB P a [t]&&tyB P b (u::r)
 | .pair a b,[s]=>match zRt P s with
   | t::u::r=>tyB P a [t]&&tyB P b (u::r)
   | _=>false
 | _,_=>false
theorem zI4 {P:Program} : ∀ {e:ETy} {ts:List TypeId},tyB P e ts=true->TyL P e ts
 | .int k,[t],h=>by
   simp only [tyB,zA,beq_iff_eq] at h;obtain ⟨h1,h2⟩:=h;split at h1
   ·rename_i k' hu;simp only [zF] at h1;subst h1;exact ⟨t,rfl,hu,h2⟩
   ·cases h1
 | .bool,[t],h=>by
   simp only [tyB,zA,beq_iff_eq] at h;obtain ⟨h1,h2⟩:=h;split at h1
   ·rename_i hu;exact ⟨t,rfl,hu,h2⟩
   ·cases h1
 | .arr2,[t],h=>by
   simp only [tyB] at h;split at h
   ·rename_i u hu;simp only [zA,beq_iff_eq] at h;obtain ⟨⟨h1,h2⟩,h3⟩:=h;split at h1
    ·rename_i hi;exact ⟨t,u,rfl,hu,hi,h2,h3⟩
    ·cases h1
   ·cases h
 | .arr3,[t],h=>by
   simp only [tyB] at h;split at h
   ·rename_i u hu;simp only [zA,beq_iff_eq] at h;obtain ⟨⟨h1,h2⟩,h3⟩:=h;split at h1
    ·rename_i hi;exact ⟨t,u,rfl,hu,hi,h2,h3⟩
    ·cases h1
   ·cases h
 | .sl e,[t],h=>by
   simp only [tyB] at h;split at h
   ·rename_i u hu;simp only [zA,beq_iff_eq] at h;obtain ⟨⟨⟨⟨h1,h2⟩,h3⟩,h4⟩,h5⟩:=h;exact ⟨t,u,rfl,hu,h1,zU h2,zU h3,zI4 h4,h5⟩
   ·cases h
 | .pt e,[t],h=>by
   simp only [tyB] at h;split at h
   ·rename_i u hu;simp only [zA,beq_iff_eq] at h;obtain ⟨⟨⟨h1,h2⟩,h4⟩,h5⟩:=h;exact ⟨t,u,rfl,hu,h1,zU h2,zI4 h4,h5⟩
   ·cases h
 | .pair a b,t::u::r,h=>by
   simp only [tyB,zA] at h;exact ⟨t,u::r,.inl rfl,by simp,zI4 h.1,zI4 h.2⟩
 | .pair a b,[s],h=>by
   simp only [tyB] at h;split at h
   ·rename_i t u r hp;simp only [zA] at h;exact ⟨t,u::r,.inr ⟨s,rfl,zS5 hp⟩,by simp,zI4 h.1,zI4 h.2⟩
   ·cases h
 | .mp _ _,_,h=>by simp [tyB] at h
 | .unit,_,h=>by simp [tyB] at h
 | .fnc,_,h=>by simp [tyB] at h
 | .int _,[],h=>by simp [tyB] at h
 | .bool,[],h=>by simp [tyB] at h
 | .arr2,[],h=>by simp [tyB] at h
 | .arr3,[],h=>by simp [tyB] at h
 | .sl _,[],h=>by simp [tyB] at h
 | .pt _,[],h=>by simp [tyB] at h
 | .pair _ _,[],h=>by simp [tyB] at h
 | .int _,_::_::_,h=>by simp [tyB] at h
 | .bool,_::_::_,h=>by simp [tyB] at h
 | .arr2,_::_::_,h=>by simp [tyB] at h
 | .arr3,_::_::_,h=>by simp [tyB] at h
 | .sl _,_::_::_,h=>by simp [tyB] at h
 | .pt _,_::_::_,h=>by simp [tyB] at h
def zUt (P:Program):List ETy->List TypeId->Bool
 | [],[]=>true
 | e::es,t::ts=>tyB P e [t]&&zUt P es ts
 | _,_=>false
theorem zNC {P:Program} : ∀ {es:List ETy} {ts:List TypeId},zUt P es ts=true->zWX P es ts
 | [],[],_=>trivial
 | e::es,t::ts,h=>by
   simp only [zUt,zA] at h;exact ⟨zI4 h.1,zNC h.2⟩
 | [],_::_,h=>by cases h
 | _::_,[],h=>by cases h
end Go.Vm
