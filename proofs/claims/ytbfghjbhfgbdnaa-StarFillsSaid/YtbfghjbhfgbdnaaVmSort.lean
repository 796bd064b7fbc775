/- Sorting what is owned: what the kit proves of Go's sorts, said of rows. -/
import Derived.Test.YtbfghjbhfgbdnaaT0toVmInl
import Derived.Test.YtbfghjbhfgbdnaaVmCode2toVmKit
import Derived.Shelf.SlSortCmp.WholeK
import Derived.Shelf.Sort.Plain
import Derived.Shelf.Slices.In.SortNone
set_option linter.unusedSimpArgs false
set_option linter.unusedVariables false
set_option maxHeartbeats 8000000
set_option maxRecDepth 100000
namespace Go.Vm
open Go.RowKit Go.Sort
def ETy.num:ETy->Bool
 | .int _=>true
 | .arr2=>true
 | .arr3=>true
 | .pair a b=>a.num&&b.num
 | _=>false
def ETy.vals:(e:ETy)->e.T->List Value
 | .int k,n=>[.int k n]
 | .arr2,x=>[.int .i64 x.1,.int .i64 x.2]
 | .arr3,x=>[.int .i64 x.1,.int .i64 x.2.1,.int .i64 x.2.2]
 | .pair a b,x=>a.vals x.1++b.vals x.2
 | _,_=>[]
theorem zH9 {I:Sig} : ∀ {e:ETy} {x:e.T} {d:List Value},e.num=true->jI I e x d->d=e.vals x
 | .int _,_,_,_,h=>by obtain ⟨rfl,_⟩:=h;rfl
 | .arr2,_,_,_,h=>by obtain ⟨rfl,_⟩:=h;rfl
 | .arr3,_,_,_,h=>by obtain ⟨rfl,_⟩:=h;rfl
 | .pair a b,_,_,hn,h=>by
   simp only [ETy.num,zA] at hn;obtain ⟨d1,d2,rfl,h1,h2⟩:=h;simp only [ETy.vals];rw [zH9 hn.1 h1,zH9 hn.2 h2]
def ETy.inR:(e:ETy)->e.T->Bool
 | .int k,n=>k.wrap n==n
 | .arr2,x=>IntKind.i64.wrap x.1==x.1&&IntKind.i64.wrap x.2==x.2
 | .arr3,x=>IntKind.i64.wrap x.1==x.1&&(IntKind.i64.wrap x.2.1==x.2.1&&IntKind.i64.wrap x.2.2==x.2.2)
 | .pair a b,x=>a.inR x.1&&b.inR x.2
 | _,_=>true
theorem zUc {I:Sig} : ∀ {e:ETy} {x:e.T} {d:List Value},e.num=true->jI I e x d->e.inR x=true
 | .int _,_,_,_,h=>by obtain ⟨_,h⟩:=h;simp only [ETy.inR,beq_iff_eq];exact h
 | .arr2,_,_,_,h=>by obtain ⟨_,h1,h2⟩:=h;simp only [ETy.inR,zA,beq_iff_eq];exact ⟨h1,h2⟩
 | .arr3,_,_,_,h=>by obtain ⟨_,h1,h2,h3⟩:=h;simp only [ETy.inR,zA,beq_iff_eq];exact ⟨h1,h2,h3⟩
 | .pair a b,_,_,hn,h=>by
   simp only [ETy.num,zA] at hn;obtain ⟨d1,d2,rfl,h1,h2⟩:=h;simp only [ETy.inR,zA];exact ⟨zUc hn.1 h1,zUc hn.2 h2⟩
theorem zNx {I:Sig} : ∀ {e:ETy} {x:e.T},e.num=true->e.inR x=true->jI I e x (e.vals x)
 | .int _,_,_,h=>by simp only [ETy.inR,beq_iff_eq] at h;exact ⟨rfl,h⟩
 | .arr2,_,_,h=>by simp only [ETy.inR,zA,beq_iff_eq] at h;exact ⟨rfl,h.1,h.2⟩
 | .arr3,_,_,h=>by simp only [ETy.inR,zA,beq_iff_eq] at h;exact ⟨rfl,h.1,h.2.1,h.2.2⟩
 | .pair a b,_,hn,h=>by
   simp only [ETy.num,zA] at hn;simp only [ETy.inR,zA] at h;exact ⟨_,_,rfl,zNx hn.1 h.1,zNx hn.2 h.2⟩
theorem zD4: ∀ {e:ETy},e.num=true->∀ x:e.T,(e.vals x).length=e.size
 | .int _,_,_=>rfl
 | .arr2,_,_=>rfl
 | .arr3,_,_=>rfl
 | .pair a b,hn,x=>by
   simp only [ETy.num,zA] at hn;simp only [ETy.vals,z7,zD4 hn.1,zD4 hn.2];rfl
theorem zOK: ∀ {e:ETy},e.num=true->∀ (x:e.T),∀ v∈e.vals x,v.oneCell'=true
 | .int _,_,_,v,h=>by simp only [ETy.vals,zD] at h;subst h;rfl
 | .arr2,_,_,v,h=>by simp only [ETy.vals,zP,zAO,or_false] at h;rcases h with rfl|rfl<;>rfl
 | .arr3,_,_,v,h=>by simp only [ETy.vals,zP,zAO,or_false] at h;rcases h with rfl|rfl|rfl<;>rfl
 | .pair a b,hn,x,v,h=>by
   simp only [ETy.num,zA] at hn;simp only [ETy.vals,zY] at h;rcases h with h|h
   ·exact zOK hn.1 _ v h
   ·exact zOK hn.2 _ v h
section
variable {P:Program} {T:Tab} {B:Base} {w w':World} {I:Sig} {M:yN} {st:St} {tmps:Array Value}
theorem GG.turn2 (h:GG B I M st tmps w) {id:Nat} {ob ob':Ob} {p:Bk} (hi:hget st.hp id=some ob) (hp:M[id]? =some (some p))
 (hw: ∀ k,k<w.heap.size->k≠p.b->w'.heap[k]? =w.heap[k]?) (hb:Below B.w.heap.size w w') (ho:zAt I M w' id ob'):GG B I M {st with hp:=zBZ st.hp id ob'} tmps w':=by
 have hsep:=h.sep _ _ _ hi hp;have hset_get: ∀ i,hget (zBZ st.hp id ob') i=if i=id then some ob' else hget st.hp i:=fun i=>zAx ⟨_,hi⟩;have none_of: ∀ b o,I b=some o->b≠p.b:=fun b o e=>by rintro rfl;rw [hsep.1] at e;cases e
 refine ⟨⟨fun b o e=> ?_,fun i o e=> ?_⟩,h.env,h.len,fun i o q e hq=> ?_,h.bel.trans hb,h.grew⟩
 ·rw [hw b (h.mem.ag.lt e) (none_of b o e)];exact h.mem.ag _ _ e
 ·simp only [hset_get] at e;split at e
  ·rename_i e';subst e';cases e;exact ho
  ·rename_i hne;exact (h.mem.ob _ _ e).same (fun q hq=>hw _ ((h.mem.ob _ _ e).lt hq) (hsep.2.2 _ _ _ hne e hq)) fun b o e=>hw b (h.mem.ag.lt e) (none_of b o e)
 ·simp only [hset_get] at e;split at e
  ·rename_i e';subst e';rw [hp] at hq;cases hq;refine ⟨hsep.1,hsep.2.1,fun i' o' q' hne e2 hq'=> ?_⟩;simp only [hset_get,if_neg hne] at e2;exact hsep.2.2 _ _ _ hne e2 hq'
  ·rename_i hne;obtain ⟨s1,s2,s3⟩:=h.sep _ _ _ e hq;refine ⟨s1,s2,fun i' o' q' hne' e2 hq'=> ?_⟩;simp only [hset_get] at e2;split at e2
   ·rename_i e';subst e';rw [hp] at hq';cases hq';exact Ne.symm (hsep.2.2 _ _ _ hne e hq)
   ·exact s3 _ _ _ hne' e2 hq'
def zZn (P:Program) (f:FuncId) (e:ETy) (ex:List Value) (g:List e.T->List e.T) (m:Nat):Prop :=
 ∀ (w:World) (blk off cap:Nat) (xs:List e.T) (c:Array Value) (u:TypeId),m<=xs.length->(∀ x∈xs,e.inR x=true)->w.heap[blk]? =some (.cells c u (0,0))->xs.length<4611686018427387904->
   (∀ (i:Nat) (x:e.T),xs[i]? =some x->∀ (j:Nat) (v:Value),(e.vals x)[j]? =some v->c[off+i*e.size+j]? =some v)->
   Calls P f (Value.slice (some ⟨blk,off,none⟩) xs.length cap::ex).toArray w fun r w'=>r= .returned (.tuple #[])/\∃ (n:Nat) (os:Array Obj) (c':Array Value),
    w'= {w with drawn:=w.drawn+n,heap:=w.heap.setIfInBounds blk (.cells c' u (0,0))++os}/\c'.size=c.size/\
    (∀ (i:Nat) (x:e.T),(g xs)[i]? =some x->∀ (j:Nat) (v:Value),(e.vals x)[j]? =some v->c'[off+i*e.size+j]? =some v)/\
    (∀ k,k<off\/off+xs.length*e.size<=k->c'[k]? =c[k]?)
def zGY (e:ETy) (g:List e.T->List e.T) (ok:List AV->Bool) (m:Nat) (args:List AV) (st:St) (K:AV->St->Prop):Prop :=
 match args with
 | .s (.own id s n)::rest=>match ok rest,hget st.hp id with
   | true,some (.row e' u xs)=>match decEq e' e with
     | .isTrue h=>zLg (m<=n) (({st with hp:=zBZ st.hp id (.row e' u (xs.take s++((h▸g:List e'.T->List e'.T) ((xs.drop s).take n)++xs.drop (s+n))))} :St).force fun st=>K .undef st)
     | .isFalse _=>False
   | _,_=>False
 | _=>False
theorem zJY {e:ETy} (hn:e.num=true) {f:FuncId} {ok:List AV->Bool} {ex:List Value} (hex: ∀ (rest:List AV) (vals:List Value) (I:Sig) (M:yN),ok rest=true->jL I M rest vals->vals=ex) {g:List e.T->List e.T}
 (hgl: ∀ xs,(g xs).length=xs.length) (hgm: ∀ xs,(∀ x∈xs,e.inR x=true)->∀ x∈g xs,x∈xs) {m:Nat} (hC:zZn P f e ex g m) (hNil:m=0->∀ (a:Option Addr) (cap:Nat) (w:World),Calls P f (Value.slice a 0 cap::ex).toArray w fun r w'=>r= .returned (.tuple #[])/\w'=w):zIx P f (zGY e g ok m):=by
 intro B I M st tmps w args vals K hg hv hk;unfold zGY at hk;split at hk
 case h_2=>exact hk.elim
 rename_i id s n rest;split at hk
 case h_2=>exact hk.elim
 rename_i e' u xs hok hid;split at hk
 case h_2=>exact hk.elim
 rename_i hee _;subst hee;obtain ⟨hmn,hk⟩:=hk.out;rw [St.force_eq] at hk;dsimp only at hk
 match vals,hv with
 | v0::vals',hv =>
 obtain ⟨hv0,hrest⟩:=hv;obtain rfl:=hex _ _ _ _ hok hrest;have hob:=hg.mem.ob _ _ hid;have hv0:y7 I M (.own id s n) v0:=hv0;simp only [y7] at hv0
 have same:n=0->xs.take s++(g ((xs.drop s).take n)++xs.drop (s+n))=xs:=by
  rintro rfl;have:g ((xs.drop s).take 0)=[]:=zDD.1 (by rw [hgl];simp);rw [this];simp
 cases hβ:M[id]? with
 | none=>simp [hβ] at hv0
 | some q =>
   cases q with
   | none =>
     simp only [hβ] at hv0;obtain ⟨⟨a0,rfl⟩,rfl,rfl⟩:=hv0;rw [same rfl] at hk;refine (hNil (by omega) a0 0 w).mono fun r w' ⟨e1,e2⟩=> ?_;subst e2;exact ⟨_,_,_,I,M,e1,hk,hg.hset_same hid,qA.undef⟩
   | some p =>
     simp only [hβ] at hv0;obtain ⟨a,cap,rfl,h1,h2,h3,h4⟩:=hv0
     by_cases hn0:n=0
     ·subst hn0;rw [same rfl] at hk;refine (hNil (by omega) (some a) cap w).mono fun r w' ⟨e1,e2⟩=> ?_;subst e2;exact ⟨_,_,_,I,M,e1,hk,hg.hset_same hid,qA.undef⟩
     obtain rfl:a=_:=h2.resolve_left (by omega);obtain ⟨hxl,hob⟩:=hob;simp only [hβ] at hob;obtain ⟨q1,q2,q3,c,q4,q5,q6⟩:=hob;have hyl:((xs.drop s).take n).length=n:=by simp;omega
     have hpos: ∀ (i:Nat) (x:_),xs[i]? =some x->∀ (j:Nat) (v:Value),(ETy.vals _ x)[j]? =some v->c[p.o+i*p.sz+j]? =some v:=fun i x hx j v hj=>by
      obtain ⟨d,f1,f2⟩:=q6 i x hx;rw [zH9 hn f1] at f2;exact f2 j v hj
     have hin: ∀ x∈(xs.drop s).take n,ETy.inR _ x=true:=fun x hx=>by
      obtain ⟨i0,hi0⟩:=zAs.1 (zAE (zAd hx));obtain ⟨d,f1,_⟩:=q6 i0 x hi0;exact zUc hn f1
     have hcalls:=hC w p.b (p.o+s*p.sz) cap ((xs.drop s).take n) c u (by rw [hyl];exact hmn) hin q4 (by rw [hyl];omega) (fun i x hx j v hj=>by
      have hi:=(zG.1 hx).1;rw [hyl] at hi;rw [yS,if_pos hi,jU] at hx;have:=hpos (s+i) x hx j v hj
      rw [<- this,<- q1,Nat.add_mul];congr 1;omega)
     rw [hyl] at hcalls;refine hcalls.mono fun r w' ⟨e1,nd,os,c',e2,e3,e4,e5⟩=> ?_;have hlt:=(zR.1 q4).1
     have hw: ∀ k,k<w.heap.size->w'.heap[k]? =(w.heap.setIfInBounds p.b (.cells c' u (0,0)))[k]? :=fun k hk=>by
      rw [e2];exact Array.getElem?_append_left (by simpa using hk)
     have hbl:w'.heap[p.b]? =some (.cells c' u (0,0)):=by rw [hw _ hlt];simp [hlt]
     have hoth: ∀ k,k<w.heap.size->k≠p.b->w'.heap[k]? =w.heap[k]? :=fun k hk hne=>by
      rw [hw k hk,qR,if_neg (Ne.symm hne)]
     have hsep:=hg.sep _ _ _ hid hβ;have hbel:Below B.w.heap.size w w':=⟨⟨by rw [e2],by rw [e2],by rw [e2],by rw [e2];simp,fun k hk=>hoth k (by have:=hg.bel.size;omega) (by have:=hsep.2.1;omega)⟩,by rw [e2];exact Nat.le_add_right _ _⟩;have hgl':=hgl ((xs.drop s).take n);rw [hyl] at hgl'
     have hlen:(xs.take s++(g ((xs.drop s).take n)++xs.drop (s+n))).length=xs.length:=by
      simp only [z7,zAN,zE1,hgl'];omega
     refine ⟨_,_,_,I,M,e1,hk,hg.turn2 hid hβ hoth hbel ?_,qA.undef⟩;refine ⟨by rw [hlen];exact hxl,?_⟩;simp only [hβ];refine ⟨q1,by rw [hlen];exact q2,q3,c',hbl,by rw [e3];exact q5,fun i x hx=> ?_⟩
     have hsz: ∀ (x:_) (j:Nat) (v:Value),(ETy.vals _ x)[j]? =some v->j<p.sz:=fun x j v hj=>by
      have:=(zG.1 hj).1;rw [zD4 hn] at this;rw [q1];exact this
     have erep: ∀ {i:Nat} {x:_},xs[i]? =some x->jI I _ x (ETy.vals _ x):=fun {i x} hx=>by
      obtain ⟨d,f1,_⟩:=q6 i x hx;rw [<- zH9 hn f1];exact f1
     rcases Nat.lt_or_ge i s with hi|hi
     ·have hxi:xs[i]? =some x:=by
       rw [yF (by simp;omega),yS,if_pos hi] at hx;exact hx
      refine ⟨_,erep hxi,fun j v hj=> ?_⟩;have hj':=hsz x j v hj;rw [e5 _ (.inl ?_)]
      ·exact hpos i x hxi j v hj
      ·have:=yD p.sz (show i+1<=s from hi);rw [Nat.succ_mul] at this;omega
     ·have hts:(xs.take s).length=s:=by simp;omega
      rw [qY (by rw [hts];exact hi),hts] at hx;rcases Nat.lt_or_ge (i - s) n with hi2|hi2
      ·rw [yF (by rw [hgl'];exact hi2)] at hx;have hm:=hgm _ hin x (yP hx);obtain ⟨i0,hi0⟩:=zAs.1 (zAE (zAd hm));refine ⟨_,erep hi0,fun j v hj=> ?_⟩;have:=e4 (i - s) x hx j v hj;rw [<- this,<- q1]
       congr 1
       have:i*p.sz=s*p.sz+(i - s)*p.sz:=by rw [<- Nat.add_mul];congr 1;omega
       omega
      ·rw [qY (by rw [hgl'];exact hi2),hgl',jU] at hx;have hxi:xs[i]? =some x:=by rw [<- hx];congr 1;omega
       refine ⟨_,erep hxi,fun j v hj=> ?_⟩;rw [e5 _ (.inr ?_)]
       ·exact hpos i x hxi j v hj
       ·rw [<- q1];have:=yD p.sz (show s+n<=i by omega);rw [Nat.add_mul] at this;omega
theorem zLH {f:Array Value->Array Value} {blk:Nat} {c:Array Value} {u:TypeId} (h:w.heap[blk]? =some (.cells c u (0,0))):(mapBlock w blk f).heap=w.heap.setIfInBounds blk (.cells (f c) u (0,0)):=by
 have hlt:=(zR.1 h).1;show w.heap.modify blk (onCells f)=_;apply Array.ext_getElem?;intro k;rw [Array.getElem?_modify,qR]
 by_cases e:blk=k
 ·subst e;rw [if_pos rfl,if_pos rfl,h,if_pos hlt];rfl
 ·rw [if_neg e,if_neg e]
theorem zOs {f:Array Value->Array Value} {blk n:Nat} {c:Array Value} {u:TypeId} {os:Array Obj} (h:w.heap[blk]? =some (.cells c u (0,0))) :
 grow (mapBlock (Go.Sort.ahead w n) blk f) os= {w with drawn:=w.drawn+n,heap:=w.heap.setIfInBounds blk (.cells (f c) u (0,0))++os} :=by
 have h1:(mapBlock (Go.Sort.ahead w n) blk f).heap=_:=zLH (w:=Go.Sort.ahead w n) (f:=f) h;show ({mapBlock (Go.Sort.ahead w n) blk f with heap:=(mapBlock (Go.Sort.ahead w n) blk f).heap++os} :World)=_;rw [h1];rfl
theorem zCo {α:Type} [Inhabited α] {enc:α->Value} {off:Nat} {d:Array α} {c:Array Value} (k:Nat) (hk:k<c.size):(putCells enc off d c)[k]? =some (if off<=k/\k<off+d.size then enc d[k - off]! else c[k]):=by
 unfold putCells;rw [Array.getElem?_mapIdx,Array.getElem?_eq_getElem hk];rfl
theorem zCN {α:Type} [Inhabited α] {enc:α->Value} {off:Nat} {d:Array α} {c:Array Value} :(putCells enc off d c).size=c.size:=by simp [putCells]
theorem zIv {blk o:Nat} {c:Array Value} {u:TypeId} (h:w.heap[blk]? =some (.cells c u (0,0))):w.frozen? ⟨blk,o,none⟩=false:=by
 simp [World.frozen?,h]
def zBg (l:List Int):List Int:=l.mergeSort fun x y=>decide (x<=y)
theorem zMv {ρ:Shelf.Ren} (Ly:Proofs.Lays.n189 P ρ):zZn P (ρ.f 189) (.int .i64) [] zBg 0:=by
 intro w blk off cap xs c u _ _ hb hlen hc;change List Int at xs
 have hH:Holds (Value.int .i64) w blk off xs.toArray:=fun j hj=>by
  have hj:j<xs.length:=by simpa using hj
  refine ⟨?_,zIv hb⟩;have:=hc j _ (zB hj) 0 _ rfl;rw [zAD hb];rw [show off+j*(ETy.int .i64).size+0=off+j by simp [ETy.size]] at this;rw [this];simp [hj]
 refine (Proofs.Any.slices_Sort_int Ly blk off cap xs w hH (zR.1 hb).1 hlen).mono fun r w' ⟨e1,n,os,e2⟩=>⟨e1,n,os,putCells (Value.int .i64) off (zBg xs).toArray c,e2.trans (zOs hb),zCN,fun i x hx j v hj=> ?_,fun k hk=> ?_⟩
 ·change (zBg xs)[i]? =some x at hx;have hl:(zBg xs).length=xs.length:=List.length_mergeSort _;have hi:=(zG.1 hx).1
  have hj0:j=0/\v= .int .i64 x:=by
   cases j with
   | zero=>simp [ETy.vals] at hj;exact ⟨rfl,hj.symm⟩
   | succ j=>simp [ETy.vals] at hj
  obtain ⟨rfl,rfl⟩:=hj0
  have hsz:off+i<c.size:=by
   have hi':i<xs.length:=by omega
   have:=hc i _ (zB hi') 0 _ rfl;have:=(zR.1 this).1;simp [ETy.size] at this;exact this
  rw [show off+i*(ETy.int .i64).size+0=off+i by simp [ETy.size],zCo _ hsz,if_pos ⟨by omega,by simp;omega⟩];rw [show off+i - off=i by omega];have:(zBg xs).toArray[i]! =x:=by rw [getElem!_pos _ i (by simpa using hi)];simpa [zB hi] using hx
  rw [this]
 ·rcases Nat.lt_or_ge k c.size with h|h
  ·have hl:(zBg xs).length=xs.length:=List.length_mergeSort _;rw [zCo _ h,if_neg (by simp [ETy.size] at hk ⊢;omega),Array.getElem?_eq_getElem h]
  ·rw [yX h,yX (by rw [zCN];exact h)]
theorem zSc {ρ:Shelf.Ren} (Ly:Proofs.Lays.n189 P ρ) (a:Option Addr) (cap:Nat) (w:World):Calls P (ρ.f 189) (Value.slice a 0 cap::[]).toArray w fun r w'=>r= .returned (.tuple #[])/\w'=w :=
 Proofs.Any.slices_Sort_int_none Ly a cap w
theorem zDO (xs:List Int):(zBg xs).length=xs.length:=List.length_mergeSort _
theorem zMn (xs:List Int) (x:Int) (h:x∈zBg xs):x∈xs:=List.mem_mergeSort.1 h
theorem zPD {ρ:Shelf.Ren} (Ly:Proofs.Lays.n189 P ρ):zIx P (ρ.f 189) (zGY (.int .i64) zBg (fun l=>l.isEmpty) 0) :=
 zJY (e:= .int .i64) (g:=zBg) rfl (ex:=[]) (fun rest vals I M h hv=>by
  match rest,vals,h,hv with
  | [],[],_,_=>rfl) zDO (fun xs _=>zMn xs) (zMv Ly) fun _=>zSc Ly
def zJf (l:List Int):Nat->List Int->List AS
 | _,[]=>[]
 | i,_::r=> .int .i64 (l.getD i 0)::zJf l (i+1) r
theorem zDX (l:List Int): ∀ (r:List Int) (i:Nat),(zJf l i r).length=r.length
 | [],_=>rfl
 | _::r,i=>by simp only [zJf,zZ,zDX l r]
theorem zJ4 (l:List Int): ∀ (r:List Int) (i j:Nat),j<r.length->(zJf l i r)[j]? =some (.int .i64 (l.getD (i+j) 0))
 | _::r,i,0,_=>rfl
 | _::r,i,j+1,h=>by
   simp only [zJf,zJH];rw [zJ4 l r (i+1) j (by simpa using h)];rw [show i+1+j=i+(j+1) by omega]
def zKf (g:List Int->List Int) (ok:List AV->Bool) (args:List AV) (st:St) (K:AV->St->Prop):Prop :=
 match args with
 | .s (.arr id n)::rest=>match ok rest,hget st.hp id with
   | true,some (.flat t cs)=>match zC3 cs with
     | some ns=>match Nat.beq ns.length n&&Nat.ble n 1000 with
       | true=>({st with hp:=zBZ st.hp id (.flat t (zJf (g ns) 0 ns))} :St).force fun st=>K .undef st
       | false=>False
     | none=>False
   | _,_=>False
 | args=>zGY (.int .i64) g ok 0 args st K
theorem zI6: ∀ {cs:List AS} {ns:List Int} {ds:List Value},zC3 cs=some ns->jZ (y7 I M) cs ds->ns.length=cs.length/\∀ (i:Nat) (n:Int),ns[i]? =some n->ds[i]? =some (.int .i64 n)/\InK .i64 n
 | [],ns,[],h,_=>by cases h;exact ⟨rfl,fun i n e=>by simp at e⟩
 | a ::cs,ns,d::ds,h,hr=>by
   unfold zC3 at h;split at h
   ·rename_i h0;cases h0
   ·rename_i n r hcs;cases hcs;split at h
    ·rename_i l hl;cases h;obtain ⟨h1,h2⟩:=zI6 hl hr.2;refine ⟨by simp [h1],fun i m e=> ?_⟩;cases i with
     | zero=>simp at e;subst e;exact ⟨by rw [hr.1.1];rfl,hr.1.2⟩
     | succ i=>exact h2 i m (by simpa using e)
    ·cases h
   ·cases h
 | [],_,_::_,_,hr=>hr.elim
 | _::_,_,[],_,hr=>hr.elim
theorem zJE {α γ:Type} {R:α->γ->Prop} : ∀ {l:List α} {m:List γ},l.length=m.length->(∀ (i:Nat) (a:α),l[i]? =some a->∃ b,m[i]? =some b/\R a b)->jZ R l m
 | [],[],_,_=>trivial
 | a::l,b::m,h,hh=>by
   refine ⟨?_,zJE (by simpa using h) fun i x hi=>hh (i+1) x (by simpa using hi)⟩;obtain ⟨b',e,r⟩:=hh 0 a rfl;cases e;exact r
theorem zUS {ρ:Shelf.Ren} (Ly:Proofs.Lays.n189 P ρ):zIx P (ρ.f 189) (zKf zBg (fun l=>l.isEmpty)):=by
 intro B I M st tmps w args vals K hg hv hk;unfold zKf at hk;split at hk
 case h_2=>exact zPD Ly B I M st tmps w _ vals K hg hv hk
 rename_i id n rest;split at hk
 case h_2=>exact hk.elim
 rename_i t cs hok hid;split at hk
 case h_2=>exact hk.elim
 rename_i ns hns;split at hk
 case h_2=>exact hk.elim
 rename_i hln;rw [St.force_eq] at hk;rw [zA] at hln;obtain ⟨hln,hn1⟩:=hln;have hln:=zC hln;have hn1:=zU hn1
 match vals,hv with
 | v0::vals',hv =>
 obtain ⟨hv0,hrest⟩:=hv
 obtain rfl:vals'=[]:=by
  match rest,vals',hok,hrest with
  | [],[],_,_=>rfl
 obtain ⟨p,hβ,rfl,hnp,_⟩:=(show y7 I M (.arr id n) v0 from hv0);obtain ⟨p2,q0,q1,q2,q3,q4,c,q5,q6⟩:=hg.mem.ob _ _ hid;rw [hβ] at q0;cases q0;obtain ⟨hl,hget⟩:=zI6 hns q6;have hcl:c.toList.length=cs.length:=q6.length.symm
 have hcalls:=zMv Ly w p.b p.o n ns c t (jB _) (fun x hx=>by
  obtain ⟨i,hi⟩:=zAs.1 hx;simp only [ETy.inR,beq_iff_eq]
  exact (hget i x hi).2) q5 (by omega) (fun i x hx j v hj=>by
  have hj0:j=0/\v= .int .i64 x:=by
   cases j with
   | zero=>simp [ETy.vals] at hj;exact ⟨rfl,hj.symm⟩
   | succ j=>simp [ETy.vals] at hj
  obtain ⟨rfl,rfl⟩:=hj0;have:=(hget i x hx).1;rw [q1,<- zJ,show 0+i*(ETy.int .i64).size+0=i by simp [ETy.size]]
  exact this)
 rw [hln] at hcalls;refine hcalls.mono fun r w' ⟨e1,nd,os,c',e2,e3,e4,e5⟩=> ?_;have hlt:=(zR.1 q5).1
 have hw: ∀ k,k<w.heap.size->w'.heap[k]? =(w.heap.setIfInBounds p.b (.cells c' t (0,0)))[k]? :=fun k hk=>by
  rw [e2];exact Array.getElem?_append_left (by simpa using hk)
 have hbl:w'.heap[p.b]? =some (.cells c' t (0,0)):=by rw [hw _ hlt];simp [hlt]
 have hoth: ∀ k,k<w.heap.size->k≠p.b->w'.heap[k]? =w.heap[k]? :=fun k hk hne=>by
  rw [hw k hk,qR,if_neg (Ne.symm hne)]
 have hsep:=hg.sep _ _ _ hid hβ;have hbel:Below B.w.heap.size w w':=⟨⟨by rw [e2],by rw [e2],by rw [e2],by rw [e2];simp,fun k hk=>hoth k (by have:=hg.bel.size;omega) (by have:=hsep.2.1;omega)⟩,by rw [e2];exact Nat.le_add_right _ _⟩;refine ⟨_,_,_,I,M,e1,hk,hg.turn2 hid hβ hoth hbel ?_,qA.undef⟩;refine ⟨p,hβ,q1,by rw [zDX,hl];exact q2,q3,by rw [zDX,hl];exact q4,c',hbl,?_⟩;have hsl:=zDO ns;have hcc:c'.toList.length=c.toList.length:=by simpa using e3
 refine zJE (by rw [zDX,hl,hcc,hcl]) fun i a hi=> ?_;have hil:=(zG.1 hi).1;rw [zDX] at hil;rw [zJ4 _ _ _ _ hil] at hi;cases hi;rw [yK]
 have hx:(zBg ns)[i]? =some ((zBg ns).getD i 0):=by
  rw [zH,zB (by omega)];rfl
 have:=e4 i _ hx 0 _ rfl;rw [q1,show 0+i*(ETy.int .i64).size+0=i by simp [ETy.size]] at this;obtain ⟨j,hj⟩:=zAs.1 (zMn ns _ (yP hx));exact ⟨_,by rw [zJ];exact this,rfl,(hget j _ hj).2⟩
abbrev RT (e:ETy):Type:= {x:e.T // e.inR x=true}
theorem zH3: ∀ e:ETy,e.inR e.dflt=true
 | .int k=>by cases k<;>rfl
 | .arr2=>rfl
 | .arr3=>rfl
 | .pair a b=>by simp only [ETy.inR,ETy.dflt,zH3 a,zH3 b];rfl
 | .bool=>rfl
 | .sl _=>rfl
 | .mp _ _=>rfl
 | .pt _=>rfl
 | .unit=>rfl
 | .fnc=>rfl
instance rtInh {e:ETy} :Inhabited (RT e):=⟨⟨e.dflt,zH3 e⟩⟩
def nrm {e:ETy} (x:e.T):RT e:=if h:e.inR x=true then ⟨x,h⟩ else ⟨e.dflt,zH3 e⟩
theorem zTu {e:ETy} {x:e.T} (h:e.inR x=true):(nrm x).1=x:=by unfold nrm;rw [dif_pos h]
def zGe (e:ETy) (cf:e.T->e.T->Int) (l:List e.T):List e.T :=
 (pdq (Proofs.ltOf fun a b:RT e=>cf a.1 b.1) (l.map nrm).toArray 0 (l.map nrm).toArray.size (Lib.bitLen (l.map nrm).toArray.size) true true).toList.map (·.1)
def z0L (e:ETy) (cf:e.T->e.T->Int):Prop:=SWO (Proofs.ltOf fun a b:RT e=>cf a.1 b.1)
theorem zJj {e:ETy} {cf:e.T->e.T->Int} (hO:z0L e cf) (l:List e.T): ∃ d':Array (RT e),zGe e cf l=d'.toList.map (·.1)/\d'.toList.Perm (l.map nrm)/\SortedIn (Proofs.ltOf fun a b:RT e=>cf a.1 b.1) 0 d'.size d':=by
 have h:=pdq_sorts (Proofs.ltOf fun a b:RT e=>cf a.1 b.1) hO (l.map nrm).toArray 0 (l.map nrm).toArray.size (Lib.bitLen (l.map nrm).toArray.size) true true (jB _) (zI _) (Or.inl rfl);obtain ⟨⟨h1,_,h2⟩,h3⟩:=h;refine ⟨_,rfl,?_,by rw [h1];exact h3⟩;have e1: ∀ (d:Array (RT e)) (m:Nat),d.size=m->(d.extract 0 m).toList=d.toList:=fun d m hm=>by subst hm;simp
 rw [e1 _ _ h1,e1 _ _ rfl] at h2;simpa using h2
theorem zHy {e:ETy} {cf:e.T->e.T->Int} (hO:z0L e cf) (l:List e.T):(zGe e cf l).length=l.length:=by
 obtain ⟨d',h1,h2,_⟩:=zJj hO l;rw [h1,z2,h2.length_eq,z2]
theorem zMF {e:ETy} {cf:e.T->e.T->Int} (hO:z0L e cf) (l:List e.T) (hl: ∀ x∈l,e.inR x=true) (x:e.T) (h:x∈zGe e cf l):x∈l:=by
 obtain ⟨d',h1,h2,_⟩:=zJj hO l;rw [h1,zS] at h;obtain ⟨y,hy,rfl⟩:=h;have:=h2.mem_iff.1 hy;rw [zS] at this;obtain ⟨z,hz,rfl⟩:=this;rw [zTu (hl z hz)];exact hz
def encR (e:ETy) (x:RT e):List Value:=e.vals x.1
theorem grown_of {n:Nat} {W W':World} (h:Below n W W') (hn:n=W.heap.size): ∃ q os',W'=grow (W.drewN q) os':=by
 subst hn;refine ⟨W'.drawn - W.drawn,W'.heap.extract W.heap.size W'.heap.size,?_⟩
 have hh:W.heap++W'.heap.extract W.heap.size W'.heap.size=W'.heap:=by
  apply Array.ext_getElem?;intro k;rw [Array.getElem?_append];split
  ·rename_i hk;exact (h.block k hk).symm
  ·rename_i hk;rw [Array.getElem?_extract];rcases Nat.lt_or_ge k W'.heap.size with hk'|hk'
   ·rw [if_pos (by omega)];congr 1;omega
   ·rw [if_neg (by omega),yX hk']
 obtain ⟨h1,h2⟩:=h;have hd:W.drawn+(W'.drawn - W.drawn)=W'.drawn:=by omega
 show W'=({W with drawn:=W.drawn+(W'.drawn - W.drawn),heap:=W.heap++W'.heap.extract W.heap.size W'.heap.size} :World);rw [hh,hd,<- h1.os,<- h1.tape,<- h1.output]
theorem zQW {e:ETy} (hn:e.num=true) (ha:e.isAgg=true) {g:FuncId} {cf:e.T->e.T->Int} (hg: ∀ x y:e.T,zDn P g [e.av x,e.av y] (none,none,.s (.int .i64 (cf x y)))) (blk off size:Nat) (w:World) :
 Proofs.CmpLays P g #[] (encR e) e.size (fun a b:RT e=>cf a.1 b.1) blk off size w:=by
 intro m os dk _ x y;generalize Proofs.sortWorldK (encR e) e.size w blk off m dk os=W
 have rep: ∀ x:RT e,qA (fun _=>none) [] (e.av x.1) (.agg (encR e x).toArray):=fun x=>by
  have:=ETy.av_rep (I:=fun _=>none) (M:=[]) (zNx (I:=fun _=>none) hn x.2);rwa [zE2 (zD4 hn _) ha] at this
 obtain ⟨_,h⟩:=hg x.1 y.1 (fun _=>none) [.agg (encR e x).toArray,.agg (encR e y).toArray] W (fun _ _ h=>by cases h) ⟨rep x,rep y,trivial⟩;have:=h trivial;refine this.mono fun r w' ⟨v,σ',e1,_,_,_,e2,e3⟩=> ?_;have e2:v= .int .i64 (cf x.1 y.1):=e2.1;subst e2;exact ⟨e1,grown_of e3 rfl⟩
theorem zYq {ρ:Shelf.Ren} (L:Proofs.SlLaysF0.n6 P ρ) {e:ETy} (hn:e.num=true) (ha:e.isAgg=true) (hz:e.size≠0) (aE: ∀ w,(isAgg (ρ.t 24)).run P w= .ok true w) (zE: ∀ w,(Go.sizeOf (ρ.t 24)).run P w= .ok e.size w)
 {g:FuncId} (eg: ∀ args w,(callFunc g args).run P w= .ok (.enter g args) w) {cf:e.T->e.T->Int} (hO:z0L e cf) (hg: ∀ x y:e.T,zDn P g [e.av x,e.av y] (none,none,.s (.int .i64 (cf x y)))) :
 zZn P (ρ.f 6) e [.func (.func g) #[] #[]] (zGe e cf) 1:=by
 intro w blk off cap xs c u _ hin hb hlen hc;have hblk:=(zR.1 hb).1
 let d:Array (RT e):=(xs.map nrm).toArray
 have hd:d.size=xs.length:=by simp [d]
 have henc: ∀ x:RT e,(encR e x).length=e.size:=fun x=>zD4 hn _
 have hcell: ∀ (d:Array (RT e)) (i j:Nat),i<d.size->j<e.size->(flatK (encR e) e.size d)[i*e.size+j]! =(e.vals (d[i]!).1)[j]! :=fun d i j hi hj=>by
  have hlt:i*e.size+j<d.size*e.size:=by
   have:=yD e.size (show i+1<=d.size from hi);rw [Nat.succ_mul] at this;omega
  rw [get_flatK _ _ _ _ hlt];have h1:(i*e.size+j) / e.size=i:=by rw [Nat.mul_comm,Nat.mul_add_div (by omega),Nat.div_eq_of_lt hj];omega
  have h2:(i*e.size+j) % e.size=j:=by rw [Nat.mul_comm,Nat.mul_add_mod,Nat.mod_eq_of_lt hj]
  rw [h1,h2];rfl
 have hH:HoldsK (encR e) e.size w blk off d:=fun t ht=>by
  rw [size_flatK,hd] at ht;refine ⟨?_,zIv hb⟩;have hpos:0<e.size:=by omega
  have hi:t / e.size<xs.length:=Nat.div_lt_of_lt_mul (by rw [Nat.mul_comm];exact ht);have hj:t % e.size<e.size:=Nat.mod_lt _ hpos;have ht2:t=t / e.size*e.size+t % e.size:=by rw [Nat.mul_comm];exact (Nat.div_add_mod t e.size).symm
  have hx:=zB hi
  have hdi:(d[t / e.size]!).1=xs[t / e.size]:=by
   have:d[t / e.size]! =nrm xs[t / e.size]:=by
    rw [getElem!_pos d _ (by rw [hd];exact hi)];simp [d]
   rw [this,zTu (hin _ (y6 hi))]
  have hvl:t % e.size<(e.vals xs[t / e.size]).length:=by rw [zD4 hn];exact hj
  have:=hc _ _ hx (t % e.size) _ (zB hvl);rw [zAD hb]
  have e1:(flatK (encR e) e.size d)[t]! =(e.vals xs[t / e.size])[t % e.size]:=by
   have:=hcell d _ _ (by rw [hd];exact hi) hj;rw [<- ht2,hdi,getElem!_pos (e.vals xs[t / e.size]) (t % e.size) hvl] at this;exact this
  rw [e1,show off+t=off+t / e.size*e.size+t % e.size by omega];exact this
 have hcalls:=Proofs.AnyQ.slices_SortFunc_eq L e.size aE zE (encR e) henc (fun x v hv=>zOK hn _ v hv) (fun a b:RT e=>cf a.1 b.1) hO g #[] blk off cap d w eg (zQW hn ha hg blk off d.size w) hH hblk (by rw [hd];exact hlen);rw [hd] at hcalls;generalize hdd:pdq (Proofs.ltOf fun a b:RT e=>cf a.1 b.1) d 0 xs.length (Lib.bitLen xs.length) true true=dd at hcalls
 have hsort:zGe e cf xs=dd.toList.map (·.1):=by
  unfold zGe;show (pdq _ d 0 d.size (Lib.bitLen d.size) true true).toList.map _=_;rw [hd,hdd]
 have hds:dd.size=xs.length:=by
  have:=zHy hO xs;rw [hsort] at this;simpa using this
 refine hcalls.mono fun r w' ⟨e1,n,os,e2⟩=>⟨e1,n,os,putCells id off (flatK (encR e) e.size dd) c,e2.trans (zOs hb),zCN,fun i x hx j v hj=> ?_,fun k hk=> ?_⟩
 ·rw [hsort,zAB] at hx;cases hy:dd.toList[i]? with
  | none=>rw [hy] at hx;cases hx
  | some y =>
    rw [hy] at hx;simp only [Option.map_some,zAV] at hx;subst hx;have hi:i<dd.size:=by have:=(zG.1 hy).1;simpa using this
    have hjl:=(zG.1 hj).1;rw [zD4 hn] at hjl;have hi':i<xs.length:=by omega
    have hlt:i*e.size+j<dd.size*e.size:=by
     have:=yD e.size (show i+1<=dd.size from hi);rw [Nat.succ_mul] at this;omega
    have hsz:off+i*e.size+j<c.size:=by
     have hvl:j<(e.vals xs[i]).length:=by rw [zD4 hn];exact hjl
     exact (zR.1 (hc i _ (zB hi') j _ (zB hvl))).1
    rw [zCo _ hsz,if_pos ⟨by omega,by rw [size_flatK];omega⟩];rw [show off+i*e.size+j - off=i*e.size+j by omega,hcell dd i j hi hjl];have hyi:dd[i]! =y:=by rw [getElem!_pos dd i hi];rw [zJ,Array.getElem?_eq_getElem hi] at hy;exact Option.some.inj hy
    rw [hyi];have hvl:j<(e.vals y.1).length:=by rw [zD4 hn];exact hjl
    rw [getElem!_pos (e.vals y.1) j hvl];rw [zB hvl] at hj;exact hj
 ·rcases Nat.lt_or_ge k c.size with h|h
  ·rw [zCo _ h,if_neg (by rw [size_flatK,hds];omega),Array.getElem?_eq_getElem h]
  ·rw [yX h,yX (by rw [zCN];exact h)]
def z3C (g:FuncId):List AV->Bool
 | [.s (.val (.func (.func g') ⟨[]⟩ ⟨[]⟩))]=>Nat.beq g' g
 | _=>false
theorem zWj {ρ:Shelf.Ren} (L:Proofs.SlLaysF0.n6 P ρ) {e:ETy} (hn:e.num=true) (ha:e.isAgg=true) (hz:e.size≠0) (aE: ∀ w,(isAgg (ρ.t 24)).run P w= .ok true w) (zE: ∀ w,(Go.sizeOf (ρ.t 24)).run P w= .ok e.size w)
 {g:FuncId} (eg: ∀ args w,(callFunc g args).run P w= .ok (.enter g args) w) {cf:e.T->e.T->Int} (hO:z0L e cf) (hg: ∀ x y:e.T,zDn P g [e.av x,e.av y] (none,none,.s (.int .i64 (cf x y)))) :
 zIx P (ρ.f 6) (zGY e (zGe e cf) (z3C g) 1) :=
 zJY (g:=zGe e cf) hn (ex:=[.func (.func g) #[] #[]]) (fun rest vals I M h hv=>by
  unfold z3C at h;split at h
  ·rename_i g';obtain rfl:=zC h
   match vals,hv with
   | [v],hv=>rw [show v=_ from hv.1.1]
  ·cases h) (zHy hO) (zMF hO) (zYq L hn ha hz aE zE eg hO hg) fun h=>by cases h
end
attribute [irreducible] zBg zGe
end Go.Vm
