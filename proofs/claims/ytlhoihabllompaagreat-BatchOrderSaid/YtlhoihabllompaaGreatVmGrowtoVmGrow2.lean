/- A part of the proofs of the laws. -/
import Derived.Test.YtlhoihabllompaaGreatVmFreezetoVmHeap
import Derived.Test.YtlhoihabllompaaGreatVmCodetoVmFloat
import Derived.WideKeyEntry
set_option linter.unusedSimpArgs false
set_option linter.unusedVariables false
set_option maxHeartbeats 8000000
set_option maxRecDepth 100000
/- A slice that grows in a container: read, appended to, laid back, taken as one. -/
namespace Go.Vm
open Go.RowKit
section
variable {P:Program} {B:Base} {w w':World} {σ τ:Sig} {β:yR} {st:St} {tmps:Array Value} {T:Tab}
def zKf (hp:jJ):Prop:= ∀ id ob,hget hp id=some ob->ob.still=true
theorem zAf.moved {id:Nat} {ob:Ob} (hs:σ.le τ) (h:zAf σ β w id ob) (hst:ob.still=true) (hk: ∀ p,β[id]? =some (some p)->w'.heap[p.b]? =w.heap[p.b]?):zAf τ β w' id ob:=by
 cases ob with
 | row e T xs =>
   obtain ⟨h0,h⟩:=h;refine ⟨h0,?_⟩;cases hβ:β[id]? with
   | none=>simp [hβ] at h
   | some x =>
     cases x with
     | none=>simpa [hβ] using h
     | some p =>
       simp only [hβ] at h ⊢;obtain ⟨h1,h2,h3,c,h4,h5,h6⟩:=h;exact ⟨h1,h2,h3,c,by rw [hk p hβ];exact h4,h5,fun i x hx=>let ⟨d,e1,e2⟩:=h6 i x hx;⟨d,e1.mono hs,e2⟩⟩
 | flat T cs =>
   obtain ⟨p,h1,h2,h3,h4,h5,c,h6,h7⟩:=h;exact ⟨p,h1,h2,h3,h4,h5,c,by rw [hk p h1];exact h6,h7.mono fun _ _=>y5.mono hs⟩
 | map k v m =>
   obtain ⟨h0,p,es,clock,h1,h2,h3,h4⟩:=h;exact ⟨h0,p,es,clock,h1,by rw [hk p h1];exact h2,h3,fun i x hx=>let ⟨en,dk,dv,e1,e2,e3,e4,e5⟩:=h4 i x hx;⟨en,dk,dv,e1,e2.mono hs,e3,e4.mono hs,e5⟩⟩
 | gmap=>cases hst
 | grow=>cases hst
 | fr X l=>exact ⟨h.1,fun t=>(h.2 t).mono hs⟩
theorem GG.extend (h:GG B σ β st tmps w) (hst:zKf st.hp) (hs:σ.le τ) (hag:Ag τ w') (hown: ∀ b,b<w.heap.size->σ b=none->w'.heap[b]? =w.heap[b]? /\τ b=none)
 (hb:Below B.w.heap.size w w') (hold: ∀ b,b<B.w.heap.size->τ b=σ b):GG B τ β st tmps w':=by
 have own: ∀ {id:Nat} {ob:Ob} {p:Bk},hget st.hp id=some ob->β[id]? =some (some p)->w'.heap[p.b]? =w.heap[p.b]? /\τ p.b=none:=fun hi hp =>
  hown _ ((h.mem.ob _ _ hi).lt hp) (h.sep _ _ _ hi hp).1
 refine ⟨⟨hag,fun id ob hi=> ?_⟩,fun t=>(h.env t).mono hs,h.len,fun id ob p hi hp=> ?_,h.bel.trans hb,h.grew.1.trans hs,fun b hlt=>(hold b hlt).trans (h.grew.2 b hlt)⟩
 ·exact (h.mem.ob _ _ hi).moved hs (hst _ _ hi) fun p hp=>(own hi hp).1
 ·obtain ⟨s1,s2,s3⟩:=h.sep _ _ _ hi hp;exact ⟨(own hi hp).2,s2,s3⟩
theorem GG.drop (h:GG B σ β st tmps w) (id:Nat):GG B σ β {st with hp:=zDU st.hp id} tmps w:=by
 have get: ∀ {i:Nat} {ob:Ob},hget (zDU st.hp id) i=some ob->hget st.hp i=some ob:=fun {i ob} e=>by
  rw [zAk] at e;split at e
  ·cases e
  ·exact e
 exact ⟨⟨h.mem.ag,fun i ob hi=>h.mem.ob _ _ (get hi)⟩,h.env,h.len,fun i ob p hi hp=>let ⟨s1,s2,s3⟩:=h.sep _ _ _ (get hi) hp;⟨s1,s2,fun _ _ _ hne hi'=>s3 _ _ _ hne (get hi')⟩,h.bel,h.grew⟩
theorem zKf.drop {id:Nat} : ∀ {hp:jJ},zGM id hp=true->zKf (zDU hp id)
 | [],_=>fun i ob e=>by cases e
 | (k, o)::r,h=>fun i ob e=>by
   simp only [zGM,zC,Bool.or_eq_true] at h;rw [zAk] at e;split at e
   ·cases e
   ·rename_i hne;rw [yL] at e;split at e
    ·rename_i hk;subst hk;cases e;rcases h.1 with h1|h1
     ·exact (hne (zH h1)).elim
     ·exact h1
    ·refine zKf.drop h.2 i ob ?_;rw [zAk,if_neg hne];exact e
theorem GG.readd {id:Nat} {ob ob':Ob} {p:Bk} (hi:hget st.hp id=some ob) (h:GG B τ β {st with hp:=zDU st.hp id} tmps w') {w'':World} (hp:β[id]? =some (some p))
 (hw: ∀ k,k≠p.b->w''.heap[k]? =w'.heap[k]?) (hb:Below B.w.heap.size w' w'') (hn:τ p.b=none) (hbase:B.w.heap.size<=p.b)
 (hoth: ∀ id' ob' p',id'≠id->hget st.hp id'=some ob'->β[id']? =some (some p')->p'.b≠p.b) (ho:zAf τ β w'' id ob') :
 GG B τ β {st with hp:=zA6 st.hp id ob'} tmps w'':=by
 have hset_get: ∀ i,hget (zA6 st.hp id ob') i=if i=id then some ob' else hget st.hp i:=fun i=>zAR ⟨_,hi⟩;have hdel_get: ∀ {i:Nat} {o:Ob},i≠id->hget st.hp i=some o->hget (zDU st.hp id) i=some o:=fun {i o} hne e=>by rw [zAk,if_neg hne];exact e
 have none_of: ∀ b o,τ b=some o->b≠p.b:=fun b o e=>by rintro rfl;rw [hn] at e;cases e
 refine ⟨⟨fun b o e=> ?_,fun i o e=> ?_⟩,h.env,h.len,fun i o q e hq=> ?_,h.bel.trans hb,h.grew⟩
 ·rw [hw b (none_of b o e)];exact h.mem.ag _ _ e
 ·simp only [hset_get] at e;split at e
  ·rename_i e';subst e';cases e;exact ho
  ·rename_i hne;exact (h.mem.ob _ _ (hdel_get hne e)).same (fun q hq=>hw _ (hoth _ _ _ hne e hq)) fun b o e=>hw b (none_of b o e)
 ·simp only [hset_get] at e;split at e
  ·rename_i e';subst e';rw [hp] at hq;cases hq;refine ⟨hn,hbase,fun i' o' q' hne e2 hq'=> ?_⟩;simp only [hset_get,if_neg hne] at e2;exact hoth _ _ _ hne e2 hq'
  ·rename_i hne;obtain ⟨s1,s2,s3⟩:=h.sep _ _ _ (hdel_get hne e) hq;refine ⟨s1,s2,fun i' o' q' hne' e2 hq'=> ?_⟩;simp only [hset_get] at e2;split at e2
   ·rename_i e';subst e';rw [hp] at hq';cases hq';exact Ne.symm (hoth _ _ _ hne e hq)
   ·rename_i hne2;exact s3 _ _ _ hne' (hdel_get hne2 e2) hq'
theorem jG.nil_of {σ:Sig} {e:ETy} {xs:List e.T} {n cap:Nat} {a:Option Addr} (h:jG σ (.sl e) xs [.slice a n cap]):xs.length=n:=by
 obtain ⟨a',c',e1,_⟩:=h;have:=(List.cons.inj e1).1;cases this;rfl
theorem zO9 (hT:zAA P T) (h:GG B σ β st tmps w) (hst:zKf st.hp) {base:Nat} (hbase:B.w.heap.size<=base) (hbw:base<w.heap.size) {v:Value} {e:ETy} {xs ys:List e.T} (hv:jG σ (.sl e) xs [v])
 (hf:zES σ w base e.size v) {y:Value} (hsrc: ∃ ao c,y= .slice ao ys.length c/\(ys≠[]->∃ ad,ao=some ad/\∃ dss,jQ (jG σ e) ys dss/\∀ (j:Nat) (u:Value),dss.flatten[j]? =some u->w.cell? (ad.add j)=some u))
 (hne:ys≠[]) {t u:TypeId} {ui:TI} (ty:TypeId) (hdc:T.desc t= .slice u) (hui:T.info u=some ui) (hsz:ui.size=e.size) (hsz0:ui.size≠0) (hbz:ui.bytes≠0) (hreq:zBT xs.length ys.length ui.bytes) :
 ∃ v' w' τ,(Builtin.append_ #[t,t] ty #[v,y]).run P w= .ok v' w'/\GG B τ β st tmps w'/\σ.le τ/\jG τ (.sl e) (xs++ys) [v']/\zES τ w' base e.size v'/\
   (∀ b o,σ b=some o->(∀ o2 n c,v≠.slice (some ⟨b,o2,none⟩) n c)->τ b=some o/\w'.heap[b]? =w.heap[b]?)/\(∀ b,b<w.heap.size->σ b=none->w'.heap[b]? =w.heap[b]? /\τ b=none)/\
   (∀ b o2 n c,v'= .slice (some ⟨b,o2,none⟩) n c->b=w.heap.size\/∃ o3 n3 c3,v= .slice (some ⟨b,o3,none⟩) n3 c3)/\Below B.w.heap.size w w':=by
 obtain ⟨ao,c,rfl,hyc⟩:=hsrc;obtain ⟨ad,rfl,dss,hd1,hd2⟩:=hyc hne;obtain ⟨i,z,hi,hsi,hbi,hzz,hzl⟩:=(hT _ _ hui).get;have hzs:z.cells.size=i.size:=by rw [hsi,<- (hT _ _ hui).zlen,<- hzl];simp
 have hund:=hT.und hdc (by simp)
 have hreqN:(xs.length+ys.length)*ui.bytes<=140737488355328:=by
  have:(((xs.length+ys.length)*ui.bytes:Nat):Int)<=140737488355328:=by push_cast;exact hreq
  omega
 have hlen63:xs.length+ys.length<=140737488355328:=Nat.le_trans (Nat.le_mul_of_pos_right _ (by omega)) hreqN;have hfl:=zBF hd1;have hpos:0<ys.length:=List.length_pos_iff.2 hne;have hBw:=h.bel.size
 -- a new block, with these data at its front
 have fresh: ∀ {zs:List e.T} {ds2:List (List Value)} {n cap:Nat} {cc:Array Value},zs=xs++ys->jQ (jG σ e) zs ds2->n=zs.length->n<=cap->cc.size=cap*e.size->(∀ (j:Nat) (u:Value),ds2.flatten[j]? =some u->cc[j]? =some u)->
  (Builtin.append_ #[t,t] ty #[v,.slice (some ad) ys.length c]).run P w= .ok (.slice (some ⟨w.heap.size,0,none⟩) n cap) (w.drew.alloc (.cells cc u))->
  ∃ v' w' τ,(Builtin.append_ #[t,t] ty #[v,.slice (some ad) ys.length c]).run P w= .ok v' w'/\GG B τ β st tmps w'/\σ.le τ/\jG τ (.sl e) (xs++ys) [v']/\zES τ w' base e.size v'/\
    (∀ b o,σ b=some o->(∀ o2 n c,v≠.slice (some ⟨b,o2,none⟩) n c)->τ b=some o/\w'.heap[b]? =w.heap[b]?)/\(∀ b,b<w.heap.size->σ b=none->w'.heap[b]? =w.heap[b]? /\τ b=none)/\
    (∀ b o2 n c,v'= .slice (some ⟨b,o2,none⟩) n c->b=w.heap.size\/∃ o3 n3 c3,v= .slice (some ⟨b,o3,none⟩) n3 c3)/\Below B.w.heap.size w w':=by
  intro zs ds2 n cap cc hz hall hn hcap hcc hget hrun;subst hn
  have hle:σ.le (fun b=>if b=w.heap.size then some (.cells ds2.flatten.toArray u (0,0)) else σ b):=by
   intro b o e;have:=h.mem.ag.lt e;show ∃ o',(if b=w.heap.size then _ else _)=some o'/\_;rw [if_neg (by omega)];exact ⟨o,e,.refl⟩
  have hold: ∀ k,k<w.heap.size->(w.drew.alloc (.cells cc u)).heap[k]? =w.heap[k]? :=fun k hk=>Go.heap_alloc_old w.drew _ (by simpa using hk);have hnew:(w.drew.alloc (.cells cc u)).heap[w.heap.size]? =some (.cells cc u):=heap_alloc_new w.drew _;have hbel:Below B.w.heap.size w (w.drew.alloc (.cells cc u)):=((Below.refl _ w).drew).alloc (by simpa using hBw) _;have hfl2:=zBF hall;refine ⟨_,_,fun b=>if b=w.heap.size then some (.cells ds2.flatten.toArray u (0,0)) else σ b,hrun,h.extend hst hle (fun b o e=> ?_) (fun b hb e=>⟨hold b hb,?_⟩) hbel (fun b hb=> ?_),hle,?_,?_,fun b o e _=> ?_,fun b hb e=>⟨hold b hb,?_⟩,fun b o2 n2 c2 e=> ?_,hbel⟩
  ·replace e:(if b=w.heap.size then some (Obj.cells ds2.flatten.toArray u (0,0)) else σ b)=some o:=e;split at e
   ·rename_i hb;subst hb;cases e;exact ⟨_,hnew,.inr ⟨_,_,_,_,rfl,rfl,fun j v hj=>hget j v (by simpa using hj)⟩⟩
   ·have:=h.mem.ag.lt e;rw [hold _ this];exact h.mem.ag _ _ e
  ·show (if b=w.heap.size then _ else _)=none;rw [if_neg (by omega)];exact e
  ·show (if b=w.heap.size then _ else _)=_;rw [if_neg (by omega)]
  ·rw [<- hz];refine ⟨_,_,rfl,by rw [hz];simp only [zN];omega,hcap,fun _=>⟨w.heap.size,0,rfl,fun i x hx=> ?_⟩⟩;obtain ⟨d,h1,h2⟩:=zDC (σ:=σ) (look:=fun k=>ds2.flatten[k]?) (k:=0) hall (fun j v hj=>by simpa using hj) i x hx;exact ⟨d,h1.mono hle,ds2.flatten.toArray,u,(0,0),by simp,fun j v hj=>by simpa using h2 j v hj⟩
  ·refine .inr ⟨w.heap.size,0,zs.length,cap,ds2.flatten.toArray,cc,u,rfl,by simp,hnew,?_,hcap,by rw [zD,hcc];exact zI _,hbw⟩;rw [List.size_toArray,hfl2,zD]
  ·have:=h.mem.ag.lt e;exact ⟨by show (if b=w.heap.size then _ else _)=_;rw [if_neg (by omega)];exact e,hold _ this⟩
  ·show (if b=w.heap.size then _ else _)=none;rw [if_neg (by omega)];exact e
  ·cases e;exact .inl rfl
 rcases hf with rfl|⟨b,o,n,cap,c0,c1,Tc,rfl,hσ,hw0,hc0,hncap,hocap,hbb⟩
 ·-- a nil slice
  have hx0:=hv.nil_of;obtain rfl:xs=[]:=List.eq_nil_of_length_eq_zero hx0;have hr:=run_append_nil (P:=P) w t ty u i z hund hi hzz ad ys.length c dss.flatten (by rw [hfl,hsi,hsz]) hd2 hpos (by omega) (by rw [hbi];simp only [List.length_nil,zD] at hreqN;omega);have hge:=grownCap_ge w ys.length 0 u;refine fresh (zs:=ys) (ds2:=dss) rfl hd1 rfl hge ?_ (fun j v hj=> ?_) hr
  ·simp only [Array.size_append,List.size_toArray,size_zeroCells,hzs,hfl,hsi,hsz,<- Nat.add_mul]
   congr 1;omega
  ·rw [Array.getElem?_append_left (by simpa using (zK.1 hj).1)];simpa using hj
 ·have hxn:=hv.nil_of;subst hxn;obtain ⟨a',cap',e1,hl1,hl2,hcell⟩:=hv;obtain ⟨ha',hcap'⟩:a'=some ⟨b,o,none⟩/\cap'=cap:=by have:=(List.cons.inj e1).1;cases this;exact ⟨rfl,rfl⟩
  subst ha';subst hcap'
  -- the elements that are there
  have olds:RowsIn σ e xs c0.toList o:=by
   intro i' x hx;have hxne:xs≠[]:=by rintro rfl;simp at hx
   obtain ⟨b',o',e2,hr⟩:=hcell hxne;cases e2;obtain ⟨d,h1,c2,T2,fz2,h2,h3⟩:=hr i' x hx;rw [hσ] at h2;cases h2;exact ⟨d,h1,fun j v hj=>by rw [zM];exact h3 j v hj⟩
  obtain ⟨o',hag1,hag2⟩:=h.mem.ag _ _ hσ;rw [hw0] at hag1;cases hag1;obtain ⟨c2,e2,hfirst⟩:=hag2.cells;cases e2;obtain ⟨ods,hod1,hod2⟩:=zDp (σ:=σ) (look:=fun k=>c0.toList[k]?) (k:=o) olds;have hofl:=zBF hod1
  by_cases hroom:xs.length+ys.length<=cap'
  ·have hfit:o+xs.length*i.size+dss.flatten.length<=c1.size:=by
    rw [hfl,hsi,hsz];have:=Nat.mul_le_mul_right e.size hroom;rw [Nat.add_mul] at this;omega
   have hr:=zCQ (P:=P) (w:=w) (ty:=ty) hund hi hw0 (by rw [hfl,hsi,hsz]) hd2 (zLJ hd1) hroom hfit (c:=c);have hpl:o+xs.length*i.size=c0.size:=by rw [hsi,hsz,hc0]
   rw [hpl] at hr hfit;have hcl:c0.size+dss.flatten.length<=c1.toList.length:=by simpa using hfit
   have hnewb:=zBM (c1.toList.take c0.size++dss.flatten++c1.toList.drop (c0.size+dss.flatten.length)).toArray hw0;have hoth: ∀ k,k≠b->(w.setRow b (c1.toList.take c0.size++dss.flatten++c1.toList.drop (c0.size+dss.flatten.length)).toArray).heap[k]? =w.heap[k]? :=fun k hk=>setRow_other w b k _ hk
   have hgrow:Ole (.cells c0 Tc (0,0)) (.cells (c0++dss.flatten.toArray) Tc (0,0)):= .inr ⟨_,_,_,_,rfl,rfl,fun j v hj=>by
    rw [Array.getElem?_append_left (zW.1 hj).1];exact hj⟩
   have hle:σ.le (fun k=>if k=b then some (.cells (c0++dss.flatten.toArray) Tc (0,0)) else σ k):=by
    intro k ob ek;show ∃ o',(if k=b then _ else _)=some o'/\_
    by_cases hk:k=b
    ·subst hk;rw [if_pos rfl];rw [hσ] at ek;cases ek;exact ⟨_,rfl,hgrow⟩
    ·rw [if_neg hk];exact ⟨ob,ek,.refl⟩
   have hbel:Below B.w.heap.size w (w.setRow b (c1.toList.take c0.size++dss.flatten++c1.toList.drop (c0.size+dss.flatten.length)).toArray):=Below.setRow w _ _ (by omega);have hc1:c1.toList.length=c1.size:=by simp
   refine ⟨_,_,fun k=>if k=b then some (.cells (c0++dss.flatten.toArray) Tc (0,0)) else σ k,hr,h.extend hst hle (fun k ob ek=> ?_) (fun k hk ek=> ?_) hbel (fun k hk=> ?_),hle,?_,?_,fun k ob ek hk=> ?_,fun k hk ek=> ?_,fun k o2 n2 c2 ek=> ?_,hbel⟩
   ·replace ek:(if k=b then some (Obj.cells (c0++dss.flatten.toArray) Tc (0,0)) else σ k)=some ob:=ek;split at ek
    ·rename_i hk;subst hk;cases ek;refine ⟨_,hnewb,.inr ⟨_,_,_,_,rfl,rfl,fun j v hj=> ?_⟩⟩;rw [Array.getElem?_append] at hj;simp only [List.getElem?_toArray,zBa hcl];split at hj
     ·rename_i hj1;rw [if_pos hj1,zM];exact hfirst j v hj
     ·rename_i hj1;have hj2:=(zW.1 hj).1;simp only [List.size_toArray] at hj2;rw [if_neg hj1,if_pos (by omega)];simpa using hj
    ·rename_i hk;rw [hoth k hk];exact h.mem.ag _ _ ek
   ·have hk':k≠b:=by rintro rfl;rw [hσ] at ek;cases ek
    exact ⟨hoth k hk',by show (if k=b then _ else _)=none;rw [if_neg hk'];exact ek⟩
   ·show (if k=b then _ else _)=_;rw [if_neg (by omega)]
   ·refine ⟨some ⟨b,o,none⟩,cap',by simp only [zN],by simp only [zN];omega,by simpa using hroom,fun _=>⟨b,o,rfl,fun i' x hx=> ?_⟩⟩;have hall:jQ (jG σ e) (xs++ys) (ods++dss):=hod1.append hd1
    have hcat: ∀ (j:Nat) (v:Value),(ods++dss).flatten[j]? =some v->(c0++dss.flatten.toArray)[o+j]? =some v:=by
     intro j v hj;rw [List.flatten_append,List.getElem?_append] at hj;split at hj
     ·rename_i hj1;have:=hod2 j v hj;have h2:=(zK.1 this).1;rw [Array.length_toList] at h2;rw [Array.getElem?_append_left h2,<- zM];exact this
     ·rename_i hj1;rw [Array.getElem?_append_right (by rw [hc0,<- hofl];omega)];rw [hc0,<- hofl,List.getElem?_toArray,show o+j - (o+ods.flatten.length)=j - ods.flatten.length by omega];exact hj
    obtain ⟨d,h1,h2⟩:=zDC (σ:=σ) (look:=fun k=>(c0++dss.flatten.toArray)[k]?) (k:=o) hall hcat i' x hx;exact ⟨d,h1.mono hle,c0++dss.flatten.toArray,Tc,(0,0),by simp,fun j v hj=>h2 j v hj⟩
   ·refine .inr ⟨b,o,xs.length+ys.length,cap',c0++dss.flatten.toArray,_,Tc,rfl,by simp,hnewb,?_,hroom,?_,hbb⟩
    ·have e1:dss.flatten.toArray.size=dss.flatten.length:=by simp
     rw [Array.size_append,e1,hfl,hc0,Nat.add_mul];omega
    ·simp only [List.size_toArray,zN,qZ,List.length_drop];rw [Nat.min_eq_left (by omega)];omega
   ·have hk':k≠b:=by rintro rfl;exact hk _ _ _ rfl
    exact ⟨by show (if k=b then _ else _)=_;rw [if_neg hk'];exact ek,hoth k hk'⟩
   ·have hk':k≠b:=by rintro rfl;rw [hσ] at ek;cases ek
    exact ⟨hoth k hk',by show (if k=b then _ else _)=none;rw [if_neg hk'];exact ek⟩
   ·cases ek;exact .inr ⟨_,_,_,rfl⟩
  ·have hold: ∀ (j:Nat) (v:Value),ods.flatten[j]? =some v->w.cell? ((⟨b,o,none⟩:Addr).add j)=some v:=by
    intro j v hj;rw [Addr.add_none,jX hw0];exact hfirst _ _ (by rw [<- zM];exact hod2 j v hj)
   have hr:=run_append_grow (P:=P) w t ty u i z hund hi hzz ⟨b,o,none⟩ xs.length cap' ods.flatten (by rw [hofl,hsi,hsz]) hold ad ys.length c dss.flatten (by rw [hfl,hsi,hsz]) hd2 (by omega) (by omega) (growslice_fits (by omega) (by rw [hbi];exact hreqN));have hge:=grownCap_ge w (xs.length+ys.length) cap' u;refine fresh (zs:=xs++ys) (ds2:=ods++dss) rfl (hod1.append hd1) (by simp) hge ?_ (fun j v hj=> ?_) hr
   ·simp only [Array.size_append,List.size_toArray,size_zeroCells,hzs,hfl,hofl,hsi,hsz,<- Nat.add_mul]
    congr 1;omega
   ·rw [List.flatten_append] at hj;rw [Array.getElem?_append_left (by simpa using (zK.1 hj).1)];simpa using hj
theorem zJ6 {v v':Value} (h:zOD v v'):zOD v' v:=fun b o n c b' o' n' c' e e' hb=>h _ _ _ _ _ _ _ _ e' e hb.symm
theorem zEt {base sz:Nat} {vals:List Value} {j:Nat} {v v':Value} (hF:zA0 σ w base sz vals) (hj:vals[j]? =some v) (hag:Ag σ w)
 (hkeep: ∀ b o,σ b=some o->(∀ o2 n c,v≠.slice (some ⟨b,o2,none⟩) n c)->τ b=some o/\w'.heap[b]? =w.heap[b]?) (hf:zES τ w' base sz v')
 (hnew: ∀ b o2 n c,v'= .slice (some ⟨b,o2,none⟩) n c->b=w.heap.size\/∃ o3 n3 c3,v= .slice (some ⟨b,o3,none⟩) n3 c3):zA0 τ w' base sz (vals.set j v'):=by
 have hjl:=(zK.1 hj).1;have hpw:=List.pairwise_iff_getElem.1 hF.2;have hjv:vals[j]=v:=by rw [zG hjl] at hj;exact Option.some.inj hj
 have apart: ∀ (i:Nat) (hi:i<vals.length),i≠j->zOD vals[i] v:=by
  intro i hi hne;rw [<- hjv];rcases Nat.lt_or_gt_of_ne hne with hlt|hgt
  ·exact hpw i j hi hjl hlt
  ·exact zJ6 (hpw j i hjl hi hgt)
 have apart': ∀ (i:Nat) (hi:i<vals.length),i≠j->zOD vals[i] v':=by
  intro i hi hne b o n c b' o' n' c' e e' hb;subst hb;rcases hnew _ _ _ _ e' with h1|⟨o3,n3,c3,h1⟩
  ·rcases hF.1 _ (yQ hi) with h2|⟨b2,o2,n2,cap2,c2,c3,T2,h2,h3,_⟩
   ·rw [e] at h2;cases h2
   ·rw [e] at h2;cases h2;have:=hag.lt h3;omega
  ·exact apart i hi hne _ _ _ _ _ _ _ _ e h1 rfl
 refine ⟨fun x hx=> ?_,List.pairwise_iff_getElem.2 fun i i' hi hi' hlt=> ?_⟩
 ·obtain ⟨i,hi,rfl⟩:=yG.1 hx;rw [List.length_set] at hi;rw [List.getElem_set];split
  ·exact hf
  ·rename_i hne;rcases hF.1 _ (yQ hi) with h2|⟨b2,o2,n2,cap2,c2,c3,T2,h2,h3,h4,h5⟩
   ·exact .inl h2
   ·obtain ⟨g1,g2⟩:=hkeep _ _ h3 fun o3 n3 c3 e=>apart i hi (Ne.symm hne) _ _ _ _ _ _ _ _ h2 e rfl;exact .inr ⟨b2,o2,n2,cap2,c2,c3,T2,h2,g1,by rw [g2];exact h4,h5⟩
 ·rw [List.length_set] at hi hi';rw [List.getElem_set,List.getElem_set];split
  ·rename_i e1;split
   ·omega
   ·exact zJ6 (apart' i' hi' (by omega))
  ·rename_i e1;split
   ·exact apart' i hi (by omega)
   ·exact hpw i i' hi hi' hlt
theorem zKJ {base sz:Nat} {vals:List Value} (hF:zA0 σ w base sz vals):zA0 σ w base sz (vals++[.slice none 0 0]):=by
 refine ⟨fun x hx=> ?_,List.pairwise_append.2 ⟨hF.2,by simp,fun a _ b hb=> ?_⟩⟩
 ·simp only [yD,zF] at hx;rcases hx with hx|rfl
  ·exact hF.1 x hx
  ·exact .inl rfl
 ·simp only [zF] at hb;subst hb;intro b o n c b' o' n' c' _ e';cases e'
theorem z4W {t kt u:TypeId} {k ev:ETy} (hMO:zFC P kt u k ev) (hT:zAA P T) (hdc:T.desc t= .map kt u) {b:Nat} {es:Array MapEntry} {clock:Nat} (hb:w.heap[b]? =some (.map es clock)) {m:List (k.T×ev.T)} (hmat:MapAt σ k ev m es)
 {q:k.T} {dk:List Value} (hkey:jG σ k q dk) (val:Value) :
 ∃ es' clock',(Instr.mapUpdate t (.map (some b)) (yX k dk) val).run P w= .ok () {w with heap:=w.heap.setIfInBounds b (.map es' clock')}/\
   ((∀ en∈es.toList,en.key≠yX k dk)/\(∀ p∈m,p.1≠q)/\es'=es.push {key:=yX k dk,val:=val,born:=clock}/\clock'=clock+1\/
     ∃ j en y,es[j]? =some en/\en.key=yX k dk/\m[j]? =some (q,y)/\es'=es.modify j (fun e=> {e with key:=yX k dk,val:=val})/\clock'=clock):=by
 have hdesc:=hT.desc (w:=w) hdc (by simp);have runGet:=MapKept.run_getObj_map (P:=P) hb;have hck:=hMO.key.check w false hkey;have hf:=zEE (w:=w) hMO.key hmat hkey;have hstay:=hMO.key.stays w hkey;have runSet: ∀ o',(setObj b o').run P w= .ok () {w with heap:=w.heap.setIfInBounds b o'} :=fun o'=>MapKept.run_setObj_map o' hb;rcases hf with ⟨h1,h2⟩|⟨j,en,y',dv,h1,h2,h3,h4,h5,h6⟩
 ·refine ⟨_,_,?_,.inl ⟨fun en hen he=> ?_,h2,rfl,rfl⟩⟩
  ·simp only [Instr.mapUpdate,Sem.run_bind,hdesc,Result.andThen_ok,runGet,hck,h1];exact runSet _
  ·obtain ⟨i,hi,rfl⟩:=yG.1 hen;have hi':i<m.length:=by rw [<- hmat.1];simpa using hi
   obtain ⟨en',dk',dv',e1,e2,e3,_⟩:=hmat.2 i _ (zG hi');have:es.toList[i]? =some en':=by rw [zM];exact e1
   rw [zG hi] at this;cases this;rw [he] at e3;exact h2 _ (yQ hi') ((hMO.key.inj hkey e2).1 e3).symm
 ·have hkeep:((es[j]?).map (·.key)).getD (yX k dk)=yX k dk:=by rw [h2];exact h3
  refine ⟨_,_,?_,.inr ⟨j,en,y',h2,h3,h4,rfl,rfl⟩⟩;simp only [Instr.mapUpdate,Sem.run_bind,hdesc,Result.andThen_ok,runGet,hck,h1,hkeep,hstay];exact runSet _
theorem zTn {k ev:ETy} {m:List (k.T×ev.T)} {es:Array MapEntry} {clock:Nat} (hmat:MapAt σ k ev m es) (hS:MapKept.Stamped es clock) {q:k.T} {dk:List Value} (hkey:jG σ k q dk) (habs: ∀ en∈es.toList,en.key≠yX k dk)
 {zs:ev.T} {dv:List Value} (hval:jG σ ev zs dv):MapAt σ k ev (m++[(q,zs)]) (es.push {key:=yX k dk,val:=yX ev dv,born:=clock})/\MapKept.Stamped (es.push {key:=yX k dk,val:=yX ev dv,born:=clock}) (clock+1):=by
 obtain ⟨hs,hmat'⟩:=hmat;refine ⟨⟨by simp [hs],fun i x hi=> ?_⟩,MapKept.stamped_push hS habs⟩;rcases Nat.lt_or_ge i m.length with hlt|hge
 ·rw [List.getElem?_append_left hlt] at hi;obtain ⟨en,dk,dv,e1,r⟩:=hmat' i x hi;exact ⟨en,dk,dv,by rw [Array.getElem?_push,if_neg (by omega)];exact e1,r⟩
 ·rw [List.getElem?_append_right hge] at hi
  have:i=m.length:=by
   have:=(zK.1 hi).1;simp at this;omega
  subst this;simp only [Nat.sub_self,List.getElem?_cons_zero,Option.some.injEq] at hi;subst hi;exact ⟨_,_,_,by rw [Array.getElem?_push,if_pos hs.symm],hkey,rfl,hval,rfl⟩
theorem zUh {k ev:ETy} {m:List (k.T×ev.T)} {es:Array MapEntry} {clock:Nat} (hmat:MapAt σ k ev m es) (hS:MapKept.Stamped es clock) {q:k.T} {dk:List Value} (hkey:jG σ k q dk) {j:Nat} {en:MapEntry} (hj:es[j]? =some en) (hk:en.key=yX k dk)
 {zs:ev.T} {dv:List Value} (hval:jG σ ev zs dv) {f:MapEntry->MapEntry} (hf: ∀ e,(f e).born=e.born/\((f e).key=e.key\/(f e).key=yX k dk)/\(f e).val=yX ev dv) :
 MapAt σ k ev (m.set j (q,zs)) (es.modify j f)/\MapKept.Stamped (es.modify j f) clock/\(es.modify j f).toList.map (·.val)=(es.toList.map (·.val)).set j (yX ev dv):=by
 obtain ⟨hs,hmat'⟩:=hmat
 have hfk:(f en).key=yX k dk:=by
  rcases (hf en).2.1 with h|h
  ·rw [h,hk]
  ·exact h
 refine ⟨⟨by simp [hs],fun i x hi=> ?_⟩,MapKept.stamped_modify hS j f (fun e _=>(hf e).1) (fun e _ he=> ?_),?_⟩
 ·rw [Array.getElem?_modify];rw [List.getElem?_set] at hi;split
  ·rename_i e';subst e';simp only [if_true] at hi;split at hi
   ·cases hi;exact ⟨_,_,_,by rw [hj];rfl,hkey,hfk,hval,(hf en).2.2⟩
   ·cases hi
  ·rename_i e';rw [if_neg e'] at hi;exact hmat' i x hi
 ·rw [hj] at he;cases he;rw [hfk,hk]
 ·apply List.ext_getElem?;intro i;simp only [List.getElem?_map,zM,Array.getElem?_modify,List.getElem?_set,yV,Array.length_toList]
  by_cases hij:j=i
  ·subst hij;have:=(zW.1 hj).1;simp [this,(hf _).2.2]
  ·simp [hij]
variable {N:Nat} {a:Act} {r:Option Nat} {n:Nat} {ops:Array Oper} {Q:Exit->Act->World->Prop}
theorem j5 {o:Oper} {l:List Oper} (hg:o.guard=none) (h:o.wpIn (FR r) n P a w (wpListIn (FR r) n P ops Q l) Q):wpListIn (FR r) n P ops Q (o::l) a w:=by
 show if Region.wanted o (yielded ops a.tmps) then _ else _;have:Region.wanted o (yielded ops a.tmps)=true:=by simp [Region.wanted,hg]
 rw [if_pos this];exact h
theorem zAd {o:Oper} {v:Value} {K:Act->World->Prop} (nodefer: ∀ c,o.op≠.defer c) (hrun:(execOp a.eval o).run P w= .ok (.value v) w') (hK:K (a.put o.dst v) w'):o.wpIn (FR r) n P a w K Q:=by
 refine ⟨fun f _=>trivial,?_⟩;rw [Oper.semAt_eq _ _ _ nodefer,hrun];exact hK
theorem zP2 {o:Oper} {K:Act->World->Prop} (nodefer: ∀ c,o.op≠.defer c) (hrun:(execOp a.eval o).run P w= .ok .skip w') (hK:K (a.put o.dst undef) w'):o.wpIn (FR r) n P a w K Q:=by
 refine ⟨fun f _=>trivial,?_⟩;rw [Oper.semAt_eq _ _ _ nodefer,hrun];exact hK
def PI (g:zNK) (hp0:jJ) (p:Bk) (v hv:Value) (o:Option Obj):Prop :=
 match g.kind with
 | .upd=> ∃ (k e:ETy) (m:List (k.T×List e.T)) (q:k.T) (dk:List Value) (σ0:Sig) (es:Array MapEntry) (clock:Nat),hget hp0 g.id=some (.gmap k e m)/\k.dec g.kc=some q/\jG σ0 k q dk/\o=some (.map es clock)/\
    ((∀ en∈es.toList,en.key≠yX k dk)/\v= .slice none 0 0\/∃ (j:Nat) (en:MapEntry),es[j]? =some en/\en.key=yX k dk/\en.val=v)
 | .ent=> ∃ (k e:ETy) (m:List (k.T×List e.T)) (q:k.T) (dk:List Value) (σ0:Sig) (es:Array MapEntry) (clock j:Nat) (en:MapEntry),hget hp0 g.id=some (.gmap k e m)/\k.dec g.kc=some q/\jG σ0 k q dk/\o=some (.map es clock)/\
    es[j]? =some en/\en.key=yX k dk/\en.val=v/\hv= .tuple #[v,goInt en.born]/\∃ y,m[j]? =some (q,y)
 | .cell=> ∃ (e:ETy) (u:TypeId) (xss:List (List e.T)) (i:Nat) (c:Array Value),hget hp0 g.id=some (.grow e u xss)/\g.kc=[.int .i64 i]/\i<xss.length/\o=some (.cells c u (0,0))/\c[p.o+i]? =some v
structure z8V (B:Base) (N:Nat) (β:yR) (g:zNK) (hp0:jJ) (p:Bk) (st:St) (a:Act) (w:World):Prop where
 gb:GB B N β st a w
 hp:st.hp=hp0
 at_:β[g.id]? =some (some p)
 pi:PI g hp0 p (a.tmps.getD g.t undef) (a.tmps.getD g.h undef) w.heap[p.b]?
 lt:p.b<w.heap.size
theorem zS6 (R:jM P T) (h:GB B N β st a w) {o:Oper} (ho:yT N o=true) (hgc:z6y o.op=true) {p q:Option Prop} {v:AV} (hc:jO T o.op (y7 st.env) st.hp=some (p,q,v)) :
 Opt p/\(Opt q->∃ val w',(execOp a.eval o).run P w= .ok (.value val) w'/\GB B N β (st.put o.dst v) (a.put o.dst val) w'/\w.heap.size<=w'.heap.size/\∀ k,k<w.heap.size->w'.heap[k]? =w.heap[k]?):=by
 obtain ⟨σ,hg⟩:=h.gg;have hd:=zAb h.size ho
 have hops: ∀ x∈o.op.operands,y6 σ β (y7 st.env x) (a.eval x):=fun x hx=>by
  simp only [yT,zC,zJ] at ho;exact jP hg (ho.2 x (by simpa using hx))
 by_cases hs:Op.simple o.op=true
 ·obtain ⟨h1,h2⟩:=zJU R.ty R.one hg.mem hops hs hc;exact ⟨h1,fun hq=>let ⟨val,e1,e2⟩:=h2 hq;⟨val,w,e1,zCf h.defers h.size ⟨σ,hg.put hd e2⟩,zI _,fun _ _=>rfl⟩⟩
 ·obtain ⟨dst,op,type,pos,after,guard⟩:=o;cases op<;>first|exact (hs rfl).elim|(cases hgc;done)|skip
  rename_i t m ps;simp only [jO] at hc;unfold zC3 at hc;split at hc
  ·rename_i u hdc;split at hc
   ·rename_i ui hui;split at hc
    ·rename_i e hety;split at hc
     ·rename_i xs hdec hble hsz;cases hc;refine ⟨trivial,fun _=> ?_⟩
      have hv:jQ (fun (p:Nat×AV) (q:Nat×Value)=>p.1=q.1/\y6 σ β p.2 q.2) (ps.toList.map fun p=>(p.1,y7 st.env p.2)) (ps.map fun (i,x)=>(i,a.eval x)).toList:=by
       rw [Array.toList_map];exact zGV fun x hx=>hops x.2 (by simp [Op.operands];exact ⟨x.1,by simpa using hx⟩)
      obtain ⟨c,hrun,h2,h3,h4,hnn⟩:=zCu (w:=w) R.ty R.ety hv hdc hui hety hdec hble hsz;obtain ⟨σ',hg',hr'⟩:=zJt (u:=u) hg (by omega) h2;have hx:(execOp a.eval ⟨dst,.buildSlice t m ps,type,pos,after,guard⟩).run P w= .ok (.value (.slice (some ⟨w.heap.size,0,none⟩) m m)) (w.alloc (.cells c u)):=by simp [execOp,hrun]
      rw [h4] at hr';exact ⟨_,_,hx,zCf h.defers h.size ⟨σ',hg'.put hd hr'⟩,Nat.le_of_lt (zW.1 (Go.heap_alloc_new w (.cells c u))).1,alloc_old w _⟩
     ·cases hc
    ·cases hc
   ·cases hc
  ·cases hc
theorem zHe {d t:Tmp} {v:Value} (hne:d≠t):((a.put (some d) v).tmps).getD t undef=a.tmps.getD t undef:=by
 show (a.tmps.setIfInBounds d v).getD t undef=_;simp only [zL,Array.getElem?_setIfInBounds];rw [if_neg hne]
theorem zWM (R:jM P T) {g:zNK} {hp0:jJ} {p:Bk} {K:St->Oper->List Oper->Prop} : ∀ (l:List Oper) {st:St} {a:Act} {w:World},(∀ o∈l,yT N o=true)->z8V B N β g hp0 p st a w->z1r T g l st K->
 (∀ st2 a2 w2 oA r2,K st2 oA r2->z8V B N β g hp0 p st2 a2 w2->(∀ o∈oA::r2,yT N o=true)->wpListIn (FR r) n P ops Q (oA::r2) a2 w2)->wpListIn (FR r) n P ops Q l a w
 | [],_,_,_,_,_,hk,_=>hk.elim
 | o :: l, st,a,w,hall,h,hk,hQ=>by
   unfold z1r at hk;split at hk
   ·exact hQ _ _ _ _ _ hk h hall
   ·split at hk
    ·rename_i d hgc hgu hdst;split at hk
     ·rename_i hdn;rw [Bool.or_eq_false_iff] at hdn;have hd1:d≠g.t:=by rintro rfl;rw [Nat.beq_refl] at hdn;cases hdn.1
      have hd2:d≠g.h:=by rintro rfl;rw [Nat.beq_refl] at hdn;cases hdn.2
      have ho:=hall o (by simp)
      have go: ∀ {p' q':Option Prop} {st':St},jY T o st=some (p',q',st')->Opt p'/\(Opt q'->z1r T g l st' K->wpListIn (FR r) n P ops Q (o::l) a w):=by
       intro p' q' st' hcs;unfold jY at hcs;split at hcs
       ·rename_i v hc;cases hcs;obtain ⟨h1,h2⟩:=zS6 R h.gb ho hgc hc;refine ⟨h1,fun hq hk'=> ?_⟩;obtain ⟨val,w1,hrun,hgb,hsz,hheap⟩:=h2 hq;refine j5 hgu (zAd (by intro c e;rw [e] at hgc;cases hgc) hrun ?_);refine zWM R l (fun o' ho'=>hall o' (by simp [ho'])) ⟨hgb,?_,h.at_,?_,Nat.lt_of_lt_of_le h.lt hsz⟩ hk' hQ
        ·rw [hdst];exact h.hp
        ·rw [hdst,zHe hd1,zHe hd2,hheap _ h.lt];exact h.pi
       ·cases hcs
      split at hk
      ·rename_i st' hcs;rw [St.force_eq] at hk;exact (go hcs).2 trivial hk
      ·rename_i p' st' hcs;have hk:=hk.out ((go hcs).1);rw [St.force_eq] at hk;exact (go hcs).2 trivial hk
      ·rename_i q' st' hcs;obtain ⟨k1,k2⟩:=hk.out;rw [St.force_eq] at k2;exact (go hcs).2 k1 k2
      ·rename_i p' q' st' hcs;obtain ⟨k1,k2⟩:=(hk.out ((go hcs).1)).out;rw [St.force_eq] at k2;exact (go hcs).2 k1 k2
      ·exact hk.elim
     ·exact hk.elim
    ·exact hk.elim
structure GK (P:Program) (T:Tab) (σ κ:Sig) (β:yR) (st:St) (w:World) (mt:TypeId) (vx vk:Value) (id:Nat) (kc:List AS) (ob:Ob) (kt u:TypeId) (k e:ETy) (m:List (k.T×List e.T)) (q:k.T) (p:Bk) (es:Array MapEntry) (clock:Nat):Prop where
 desc:T.desc mt= .map kt u
 ok:zFC P kt u k (.sl e)
 get:hget st.hp id=some (.gmap k e m)
 dec:k.dec kc=some q
 key:jG κ k q vk.cells.toList
 kv:vk=yX k vk.cells.toList
 at_:β[id]? =some (some p)
 vx:vx= .map (some p.b)
 heap:w.heap[p.b]? =some (.map es clock)
 mat:MapAt σ k (.sl e) m es
 nodup:(m.map (·.1)).Nodup
 fr:zA0 σ w p.b e.size (es.toList.map (·.val))
 stp:MapKept.Stamped es clock
 zero: ∀ w:World,(zeroValue u).run P w= .ok (.slice none 0 0) w
 ob:ob= .gmap k e (zAB k m q ((jS k m q).getD []))
theorem zJN (R:jM P T) (h:GG B σ β st tmps w) {κ κ':Sig} {mt:TypeId} {x key:AV} {vx vk:Value} (hx:y6 κ' β x vx) (hk:y6 κ β key vk) {id:Nat} {kc:List AS} {ob:Ob} (he:z0G T mt st x key=some (id,kc,ob)) :
 ∃ kt u k e m q p es clock,GK P T σ κ β st w mt vx vk id kc ob kt u k e m q p es clock:=by
 unfold z0G at he;split at he
 ·rename_i id' kc' kt u hkc hdc;split at he
  ·rename_i ki ui k e m hki hui hid;split at he
   ·rename_i q hchk hdec;cases he;simp only [zC,beq_iff_eq] at hchk;obtain ⟨⟨c1,c2⟩,c3⟩:=hchk;have c1:=zBH c1;have c2:=zBH c2;have hMO:=R.maps _ _ _ hdc _ _ _ _ hki hui c1 c2;have hkey:=ETy.dec_sound hdec (zBC hk hkc);have hkv:=zEK hk hkc c3 hkey.length;obtain ⟨hn,p,es,clock,q1,q2,q3,q4,q5,q6⟩:=h.mem.ob _ _ hid;obtain ⟨p',q1',rfl,_⟩:=hx;rw [q1] at q1';cases q1';obtain ⟨i,z,hi,_,_,hz,_⟩:=(R.ty _ _ hui).get
    have hz':=hMO.zero i hi;rw [hz] at hz';refine ⟨kt,u,k,e,m,q,p,es,clock,hdc,hMO,hid,hdec,hkey,hkv,q1,rfl,q2,⟨q3,q4⟩,hn,q5,q6,fun w=> ?_,rfl⟩;simp only [zeroValue,typeInfo,Sem.run_bind,run_program,Result.andThen_ok,hi,Sem.run_pure,hz];rw [Option.some.inj hz'];rfl
   ·cases he
  ·cases he
 ·cases he
theorem zAo {t:Tmp} {v:Value} (hlt:t<a.tmps.size):((a.put (some t) v).tmps).getD t undef=v:=by
 show (a.tmps.setIfInBounds t v).getD t undef=_;rw [zQr _ _ _ _ hlt,if_pos rfl]
theorem zYU (R:jM P T) (h:GA B N st a w) {l:List Oper} (hall: ∀ o∈l,yT N o=true) {g:zNK} {st1:St} {rest:List Oper} (hs:zXu T l st=some (g,st1,rest))
 (hK: ∀ β p a1 w1,z8V B N β g st1.hp p st1 a1 w1->(∀ o∈rest,yT N o=true)->wpListIn (FR r) n P ops Q rest a1 w1):wpListIn (FR r) n P ops Q l a w:=by
 obtain ⟨σ,β,hg⟩:=h.gg
 have ops_rep: ∀ o∈l,∀ x∈o.op.operands,y6 σ β (y7 st.env x) (a.eval x):=fun o ho x hx=>by
  have:=hall o ho;simp only [yT,zC,zJ] at this;exact jP hg (this.2 x (by simpa using hx))
 unfold zXu at hs;split at hs
 ·-- a look-up
  rename_i t mt x kx ty pos after rest';split at hs
  ·rename_i id kc ob hk;cases hs;have hrep:=ops_rep _ zY;obtain ⟨kt,u,k,e,m,q,p,es,clock,G⟩:=zJN R hg (hrep x (by simp [Op.operands])) (hrep kx (by simp [Op.operands])) hk;have hd:zBE (some t) a.tmps:=zAb (o:=⟨some t,.lookup mt x kx false,ty,pos,after,none⟩) h.size (hall _ (by simp));have hdesc:=R.ty.desc (w:=w) G.desc (by simp);have hget:=MapKept.run_getObj_map (P:=P) G.heap;have hchk:=G.ok.key.check w es.isEmpty G.key
   have hf:=zEE (w:=w) G.ok.key G.mat G.key;rw [<- G.kv] at hchk hf
   have fin: ∀ {v:Value},(Instr.lookup mt (a.eval x) (a.eval kx) false).run P w= .ok v w->((∀ en∈es.toList,en.key≠a.eval kx)/\v= .slice none 0 0\/∃ (j:Nat) (en:MapEntry),es[j]? =some en/\en.key=a.eval kx/\en.val=v)->
    wpListIn (FR r) n P ops Q (⟨some t,.lookup mt x kx false,ty,pos,after,none⟩::rest) a w:=by
    intro v hrun hv;refine j5 rfl (zAd (v:=v) (w':=w) (by intro c e;cases e) (by simp [execOp,hrun]) ?_);refine hK β p _ _ ⟨zCf h.defers h.size ⟨σ,hg.put hd (a:= .junk) trivial⟩,rfl,G.at_,?_,(h.gg.elim fun _ _=>(hg.mem.ob _ _ G.get).lt G.at_)⟩ fun o ho=>hall o (by simp [ho]);refine ⟨k,e,m,q,_,σ,es,clock,G.get,G.dec,G.key,G.heap,?_⟩;rw [<- G.kv,zAo (hd t rfl)];exact hv
   rcases hf with ⟨h1,h2⟩|⟨j,en,y,dv,h1,h2,h3,h4,h5,h6⟩
   ·refine fin (v:= .slice none 0 0) ?_ (.inl ⟨fun en hen he=> ?_,rfl⟩)
    ·rw [G.vx];simp only [Instr.lookup,Sem.run_bind,hdesc,Result.andThen_ok,Sem.run_pure,hget];simp [hchk,h1,G.zero]
    ·obtain ⟨i,hi,rfl⟩:=yG.1 hen;have hi':i<m.length:=by rw [<- G.mat.1];simpa using hi
     obtain ⟨en',dk',dv',e1,e2,e3,_⟩:=G.mat.2 i _ (zG hi');have:es.toList[i]? =some en':=by rw [zM];exact e1
     rw [zG hi] at this;cases this;rw [he,G.kv] at e3;exact h2 _ (yQ hi') ((G.ok.key.inj G.key e2).1 e3).symm
   ·refine fin (v:=en.val) ?_ (.inr ⟨j,en,h2,h3,rfl⟩);rw [G.vx];simp only [Instr.lookup,Sem.run_bind,hdesc,Result.andThen_ok,Sem.run_pure,hget];simp [hchk,h1]
  ·cases hs
 ·-- an entry
  rename_i hh mt x kx ty pos after t h' ty2 pos2 after2 rest';split at hs
  ·rename_i id kc ob hk hhh hht;cases hs;obtain rfl:=zH hhh;have hne:hh≠t:=by rintro rfl;rw [Nat.beq_refl] at hht;cases hht
   have hrep:=ops_rep _ zY;obtain ⟨kt,u,k,e,m,q,p,es,clock,G⟩:=zJN R hg (hrep x (by simp [Op.operands])) (hrep kx (by simp [Op.operands])) hk;have hd:zBE (some hh) a.tmps:=zAb (o:=⟨some hh,.mapEntry mt x kx,ty,pos,after,none⟩) h.size (hall _ (by simp));have hd2:zBE (some t) a.tmps:=zAb (o:=⟨some t,.extract (.tmp hh) 0,ty2,pos2,after2,none⟩) h.size (hall _ (by simp));have hdesc:=R.ty.desc (w:=w) G.desc (by simp)
   have hget:=MapKept.run_getObj_map (P:=P) G.heap;have hchk:=G.ok.key.check w false G.key;have hf:=zEE (w:=w) G.ok.key G.mat G.key;have hstay:=G.ok.key.stays w G.key;have runSet: ∀ o',(setObj p.b o').run P w= .ok () {w with heap:=w.heap.setIfInBounds p.b o'} :=fun o'=>MapKept.run_setObj_map o' G.heap;rw [<- G.kv] at hchk hf hstay;have hsep:=hg.sep _ _ _ G.get G.at_
   have fin: ∀ {es':Array MapEntry} {clock' j:Nat} {en:MapEntry},(Instr.mapEntry mt (a.eval x) (a.eval kx)).run P w= .ok (.tuple #[en.val,goInt en.born]) {w with heap:=w.heap.setIfInBounds p.b (.map es' clock')}->
    MapAt σ k (.sl e) (zAB k m q ((jS k m q).getD [])) es'->MapKept.Stamped es' clock'->zA0 σ w p.b e.size (es'.toList.map (·.val))->es'[j]? =some en->en.key=a.eval kx->
    wpListIn (FR r) n P ops Q (⟨some hh,.mapEntry mt x kx,ty,pos,after,none⟩::⟨some t,.extract (.tmp hh) 0,ty2,pos2,after2,none⟩::rest) a w:=by
    intro es' clock' j en hrun hm' hst' hfr' hj hk';obtain ⟨g1,g2⟩:=MapKept.heap_set (o':= .map es' clock') G.heap;have none_of: ∀ b o,σ b=some o->b≠p.b:=fun b o e=>by rintro rfl;rw [hsep.1] at e;cases e
    have hob:zAf σ β {w with heap:=w.heap.setIfInBounds p.b (.map es' clock')} id (.gmap k e (zAB k m q ((jS k m q).getD []))) :=
     ⟨zEv _ G.nodup,p,es',clock',G.at_,g1,hm'.1,hm'.2,hfr'.keep (fun _ _ e=>e) (fun b o e=>g2 b (none_of b o e)),hst'⟩
    have hbl:Below B.w.heap.size w {w with heap:=w.heap.setIfInBounds p.b (.map es' clock')} :=⟨⟨rfl,rfl,rfl,by simp,fun k hk=>g2 k (by have:=hsep.2.1;omega)⟩,zI _⟩;have hg1:=hg.turn G.get G.at_ (fun k hk=>g2 k hk) hbl hob;have hg2:=hg1.put hd (a:= .junk) (v:= .tuple #[en.val,goInt en.born]) trivial;have hd2':zBE (some t) (zHa a.tmps (some hh) (.tuple #[en.val,goInt en.born])):=by intro t' e;cases e;rw [qU];exact hd2 t rfl
    have hg3:=hg2.put hd2' (a:= .junk) (v:=en.val) trivial;have hh1:(a.put (some hh) (.tuple #[en.val,goInt en.born])).tmps.getD hh undef= .tuple #[en.val,goInt en.born]:=zAo (hd hh rfl);refine j5 rfl (zAd (v:= .tuple #[en.val,goInt en.born]) (w':= {w with heap:=w.heap.setIfInBounds p.b (.map es' clock')}) (by intro c e;cases e) (by simp [execOp,hrun]) ?_);refine j5 rfl (zAd (v:=en.val) (w':= {w with heap:=w.heap.setIfInBounds p.b (.map es' clock')}) (by intro c e;cases e) ?_ ?_)
    ·have:(a.put (some hh) (.tuple #[en.val,goInt en.born])).eval (.tmp hh)= .tuple #[en.val,goInt en.born]:=hh1;simp [execOp,this,Instr.extract]
    ·rw [G.ob] at hK;refine hK β p _ _ ⟨⟨?_,?_,σ,hg3⟩,rfl,G.at_,?_,?_⟩ fun o ho=>hall o (by simp [ho])
     ·simp [put_defers,h.defers]
     ·simp only [jU,qU,h.size]
     ·obtain ⟨y,hy⟩: ∃ y,(zAB k m q ((jS k m q).getD []))[j]? =some (q,y):=by
       have hjl:=(zW.1 hj).1;rw [hm'.1] at hjl;obtain ⟨en',dk',dv',e1,e2,e3,_⟩:=hm'.2 j _ (zG hjl);rw [hj] at e1;cases e1;have hkq:q=((zAB k m q ((jS k m q).getD []))[j]).1:=(G.ok.key.inj G.key e2).1 (by rw [<- e3,hk',<- G.kv]);exact ⟨((zAB k m q ((jS k m q).getD []))[j]).2,by rw [zG hjl];exact congrArg some (Prod.ext hkq.symm rfl)⟩
      refine ⟨k,e,zAB k m q ((jS k m q).getD []),q,_,σ,es',clock',j,en,?_,G.dec,G.key,g1,hj,by rw [hk',<- G.kv],?_,?_,y,hy⟩
      ·show Vm.hget (zA6 st.hp id _) id=_;rw [zAR ⟨_,G.get⟩,if_pos rfl]
      ·rw [zAo (by rw [jU,qU];exact hd2 t rfl)]
      ·rw [zAo (by rw [jU,qU];exact hd2 t rfl),zHe (Ne.symm hne)];exact hh1
     ·simp only [Array.size_setIfInBounds];exact (hg.mem.ob _ _ G.get).lt G.at_
   have hzero:jG σ (.sl e) ([]:List e.T) [.slice none 0 0]:=⟨none,0,rfl,by simp,by simp,fun h=>(h rfl).elim⟩
   have habs:(∀ p∈m,p.1≠q)->∀ en∈es.toList,en.key≠yX k (a.eval kx).cells.toList:=by
    intro h2 en hen he;obtain ⟨i,hi,rfl⟩:=yG.1 hen;have hi':i<m.length:=by rw [<- G.mat.1];simpa using hi
    obtain ⟨en',dk',dv',e1,e2,e3,_⟩:=G.mat.2 i _ (zG hi');have:es.toList[i]? =some en':=by rw [zM];exact e1
    rw [zG hi] at this;cases this;rw [he] at e3;exact h2 _ (yQ hi') ((G.ok.key.inj G.key e2).1 e3).symm
   rcases hf with ⟨h1,h2⟩|⟨j,en,y,dv,h1,h2,h3,h4,h5,h6⟩
   ·obtain ⟨m1,m2⟩:=zTn G.mat G.stp G.key (habs h2) hzero;rw [<- G.kv] at m1 m2;have hgn:=zCP h2;refine fin (es':=es.push {key:=a.eval kx,val:= .slice none 0 0,born:=clock}) (clock':=clock+1) (j:=es.size) (en:= {key:=a.eval kx,val:= .slice none 0 0,born:=clock}) ?_ ?_ m2 ?_ (by simp) rfl
    ·rw [G.vx];simp only [Instr.mapEntry,Sem.run_bind,hdesc,Result.andThen_ok,hget,hchk,h1,G.zero,runSet,Sem.run_pure]
    ·rw [hgn.1,hgn.2];exact m1
    ·rw [Array.toList_push,List.map_append];exact zKJ G.fr
   ·have hmem:=List.mem_of_getElem? h4;have hgm:=zEB G.nodup h4;have hkeep:((es[j]?).map (·.key)).getD (a.eval kx)=a.eval kx:=by rw [h2];exact h3
    have hval:jG σ (.sl e) y dv:=h5;obtain ⟨m1,m2,m3⟩:=zUh (f:=fun e=> {e with key:=a.eval kx,val:=en.val}) G.mat G.stp G.key h2 (by rw [h3,<- G.kv]) hval (fun e'=>⟨rfl,.inr G.kv,h6⟩)
    have hmod:es.modify j (fun e=> {e with key:=a.eval kx})=es.modify j (fun e=> {e with key:=a.eval kx,val:=en.val}):=by
     apply Array.ext_getElem?;intro i;rw [Array.getElem?_modify,Array.getElem?_modify];split
     ·rename_i e';subst e';rw [h2];rfl
     ·rfl
    have hself:(es.toList.map (·.val)).set j (yX (.sl e) dv)=es.toList.map (·.val):=by
     apply List.ext_getElem?;intro i;rw [List.getElem?_set];split
     ·rename_i e';subst e';rw [<- h6];have hlt:=(zW.1 h2).1;rw [if_pos (by simpa using hlt),List.getElem?_map,zM,h2];rfl
     ·rfl
    refine fin (es':=es.modify j (fun e=> {e with key:=a.eval kx,val:=en.val})) (clock':=clock) (j:=j) (en:=en) ?_ ?_ m2 ?_ ?_ h3
    ·rw [G.vx,<- hmod];simp only [Instr.mapEntry,Sem.run_bind,hdesc,Result.andThen_ok,hget,hchk,h1,h2,h3,Option.map_some,Option.getD_some,hstay,runSet,Sem.run_pure]
    ·rw [hgm.1,Option.getD_some,hgm.2];exact m1
    ·rw [m3,hself];exact G.fr
    ·rw [Array.getElem?_modify,if_pos rfl,h2];simp [<- h3]
  ·cases hs
 ·-- a cell
  rename_i t et x ty pos after rest';split at hs
  ·rename_i id i ti hx hti;split at hs
   ·rename_i e u xss hid hag hsz;cases hs;have hd:zBE (some t) a.tmps:=zAb (o:=⟨some t,.load et x,ty,pos,after,none⟩) h.size (hall _ (by simp));have hrx:=ops_rep _ zY x (by simp [Op.operands]);rw [hx] at hrx;obtain ⟨p,hp,hv,hi⟩:=hrx;obtain ⟨h0,p',q1,q2,q3,q4,c,q5,q6,q7,q8⟩:=hg.mem.ob _ _ hid;rw [hp] at q1;cases q1;have hil:i<xss.length:=by omega
    obtain ⟨v,e1,e2⟩:=q7 i _ (zG hil);have hsz:=zH hsz;have hv':a.eval x= .pointer (some ⟨p.b,p.o+i,none⟩):=by rw [hv,q2];simp
    obtain ⟨val,hrun,_,hval⟩:=zBg (P:=P) (w:=w) (b:=p.b) (o:=p.o+i) (R.ty _ _ hti) (ds:=[v]) (by simp [hsz]) (fun j d hj=>by
     cases j with
     | zero=>simp at hj;subst hj;rw [jX q5];exact e2
     | succ j=>simp at hj) (fun _=>hsz)
    have:=hval hag;cases this;refine j5 rfl (zAd (v:=v) (w':=w) (by intro c e;cases e) (by simp [execOp,hv',zBL,hrun]) ?_);refine hK β p _ _ ⟨zCf h.defers h.size ⟨σ,hg.put hd (a:= .junk) trivial⟩,rfl,hp,?_,(hg.mem.ob _ _ hid).lt hp⟩ fun o ho=>hall o (by simp [ho]);exact ⟨e,u,xss,i,c,hid,rfl,hil,q5,by rw [zAo (hd t rfl)];exact e2⟩
   ·cases hs
  ·cases hs
 ·cases hs
end
end Go.Vm
/- A slice that grows in a container: the append and the laying back. -/
namespace Go.Vm
open Go.RowKit
section
variable {P:Program} {B:Base} {w w':World} {σ τ:Sig} {β:yR} {st:St} {tmps:Array Value} {T:Tab} {N:Nat} {a:Act} {r:Option Nat} {n:Nat} {ops:Array Oper} {Q:Exit->Act->World->Prop}
theorem zYY (h:Mem σ β st.hp w) {av:AV} {y:Value} (ha:y6 σ β av y) {e:ETy} {ts:List TypeId} {b:Nat} {ys:List e.T} (hs:z7g T e ts av st.hp=some (b,ys)) :
 ∃ t u ui,ts=[t,t]/\T.desc t= .slice u/\T.info u=some ui/\ui.bytes=b/\ui.bytes≠0/\ui.size=e.size/\ui.size≠0/\ys≠[]/\
   ∃ ao c,y= .slice ao ys.length c/\(ys≠[]->∃ ad,ao=some ad/\∃ dss,jQ (jG σ e) ys dss/\∀ (j:Nat) (u:Value),dss.flatten[j]? =some u->w.cell? (ad.add j)=some u):=by
 unfold z7g at hs;split at hs
 ·rename_i t t' e' y0 ys0 hv;split at hs
  ·rename_i u hee htt hdc _;subst hee;split at hs
   ·rename_i ui hui;split at hs
    ·rename_i hbz hsz hsz0;cases hs;obtain rfl:=zH htt;obtain ⟨ao,c,h1,_,h2⟩:=zOl h ha hv;exact ⟨t,u,ui,rfl,hdc,hui,rfl,(by intro e;rw [e] at hbz;cases hbz),zH hsz,(by intro e;rw [e] at hsz0;cases hsz0),by simp,ao,c,h1,h2⟩
    ·cases hs
   ·cases hs
  ·cases hs
 ·cases hs
theorem z8b (R:jM P T) (hg:GG B σ β st a.tmps w) {id:Nat} {ob:Ob} {p:Bk} (hst:zGM id st.hp=true) (hid:hget st.hp id=some ob) (hp:β[id]? =some (some p)) {v:Value} {e:ETy} {xs:List e.T}
 (hv:jG σ (.sl e) xs [v]) (hf:zES σ w p.b e.size v) {oA:Oper} {x y:Operand} {d:Tmp} (hA:zDl oA=some (x,y,d)) (hx:a.eval x=v) (hoA:yT N oA=true)
 {b:Nat} {ys:List e.T} (hsrc:z7g T e (zWk oA) (y7 st.env y) st.hp=some (b,ys)) (hfit:zBT xs.length ys.length b) :
 ∃ v' w1 τ,(execOp a.eval oA).run P w= .ok (.value v') w1/\GG B τ β {st with hp:=zDU st.hp id} a.tmps w1/\σ.le τ/\jG τ (.sl e) (xs++ys) [v']/\zES τ w1 p.b e.size v'/\
   (∀ b o,σ b=some o->(∀ o2 n c,v≠.slice (some ⟨b,o2,none⟩) n c)->τ b=some o/\w1.heap[b]? =w.heap[b]?)/\w1.heap[p.b]? =w.heap[p.b]? /\τ p.b=none/\
   (∀ b o2 n c,v'= .slice (some ⟨b,o2,none⟩) n c->b=w.heap.size\/∃ o3 n3 c3,v= .slice (some ⟨b,o3,none⟩) n3 c3):=by
 obtain ⟨hgu,hds,ts,hop⟩:=zB8 hA
 have hy:y6 σ β (y7 st.env y) (a.eval y):=by
  simp only [yT,zC,zJ] at hoA;exact jP hg (hoA.2 y (by simp [hop,Op.operands,Call.operands]))
 obtain ⟨t,u,ui,e1,e2,e3,e4,e5,e6,e7,e8,ao,c,e9,e10⟩:=zYY (st:=st) hg.mem hy hsrc
 have hts:ts= #[t,t]:=by
  have:zWk oA=ts.toList:=by simp [zWk,hop]
  rw [this] at e1;rw [<- Array.toArray_toList (xs:=ts),e1]
 subst hts;have hsep:=hg.sep _ _ _ hid hp;obtain ⟨v',w1,τ,f1,f2,f3,f4,f5,f6,f7,f8,f9⟩:=zO9 R.ty (hg.drop id) (zKf.drop hst) hsep.2.1 ((hg.mem.ob _ _ hid).lt hp) hv hf ⟨ao,c,e9,e10⟩ e8 oA.type e2 e3 e6 e7 e5 (by rw [e4];exact hfit);refine ⟨v',w1,τ,?_,f2,f3,f4,f5,f6,(f7 _ ((hg.mem.ob _ _ hid).lt hp) hsep.1).1,(f7 _ ((hg.mem.ob _ _ hid).lt hp) hsep.1).2,f8⟩;rw [<- hx] at f1;simp [execOp,hop,resolve,invoke,builtin,f1]
theorem MapAt.mono {k v:ETy} {m:List (k.T×v.T)} {es:Array MapEntry} (hs:σ.le τ) (h:MapAt σ k v m es):MapAt τ k v m es :=
 ⟨h.1,fun i x hx=>let ⟨en,dk,dv,e1,e2,e3,e4,e5⟩:=h.2 i x hx;⟨en,dk,dv,e1,e2.mono hs,e3,e4.mono hs,e5⟩⟩
theorem zTi {e:ETy} {xs:List e.T} {dv:List Value} (h:jG σ (.sl e) xs dv):dv=[yX (.sl e) dv]:=by
 have:=h.length
 match dv,this with
 | [v],_=>rfl
theorem z23 {k e:ETy} {m:List (k.T×List e.T)} {es:Array MapEntry} (hmat:MapAt σ k (.sl e) m es) (hn:(m.map (·.1)).Nodup) {base:Nat} (hF:zA0 σ w base e.size (es.toList.map (·.val))) {j:Nat} {q:k.T} {y:List e.T} {en:MapEntry}
 (hm:m[j]? =some (q,y)) (hj:es[j]? =some en):jG σ (.sl e) ((jS k m q).getD []) [en.val]/\zES σ w base e.size en.val/\(es.toList.map (·.val))[j]? =some en.val:=by
 obtain ⟨en',dk,dv,e1,e2,e3,e4,e5⟩:=hmat.2 j _ hm;rw [hj] at e1;cases e1;have hval:(es.toList.map (·.val))[j]? =some en.val:=by rw [List.getElem?_map,zM,hj];rfl
 refine ⟨?_,hF.1 _ (List.mem_of_getElem? hval),hval⟩;rw [(zEB hn hm).1,e5,<- zTi e4];exact e4
theorem z6Z {mt:TypeId} {x key:AV} {id:Nat} {kc:List AS} {ob:Ob} (he:z0G T mt st x key=some (id,kc,ob)):x= .s (.omp id):=by
 unfold z0G at he;split at he
 ·split at he
  ·split at he
   ·cases he;rfl
   ·cases he
  ·cases he
 ·cases he
theorem zNN {id:Nat} {k e:ETy} {m m':List (k.T×List e.T)} {p:Bk} (hid:hget st.hp id=some (.gmap k e m)) (hp:β[id]? =some (some p)) {tmps0:Array Value} {st0:St} (hg:GG B σ β st0 tmps0 w) (hst0:st0.hp=st.hp)
 {w1:World} (h1:GG B τ β {st with hp:=zDU st.hp id} tmps w1) (hτ:τ p.b=none) {es es':Array MapEntry} {clock clock':Nat} (hb:w1.heap[p.b]? =some (.map es clock))
 (hm:MapAt τ k (.sl e) m' es') (hn:(m'.map (·.1)).Nodup) (hS:MapKept.Stamped es' clock') (hF:zA0 τ w1 p.b e.size (es'.toList.map (·.val))) :
 GG B τ β {st with hp:=zA6 st.hp id (.gmap k e m')} tmps {w1 with heap:=w1.heap.setIfInBounds p.b (.map es' clock')} :=by
 have hid0:hget st0.hp id=some (.gmap k e m):=by rw [hst0];exact hid
 have hsep:=hg.sep _ _ _ hid0 hp;obtain ⟨g1,g2⟩:=MapKept.heap_set (o':= .map es' clock') hb;have none_of: ∀ b o,τ b=some o->b≠p.b:=fun b o e=>by rintro rfl;rw [hτ] at e;cases e
 refine GG.readd hid h1 hp (fun k hk=>g2 k hk) ⟨⟨rfl,rfl,rfl,by simp,fun k hk=>g2 k (by have:=hsep.2.1;omega)⟩,zI _⟩ hτ hsep.2.1 (fun id' ob' p' hne hi hp'=> ?_) ?_
 ·exact hsep.2.2 _ _ _ hne (by rw [hst0];exact hi) hp'
 ·exact ⟨hn,p,es',clock',hp,g1,hm.1,hm.2,hF.keep (fun _ _ e=>e) (fun b o e=>g2 b (none_of b o e)),hS⟩
theorem zJe {mt:TypeId} {b:Nat} {es:Array MapEntry} {clock:Nat} (hb:w.heap[b]? =some (.map es clock)) (hS:MapKept.Stamped es clock) {j:Nat} {en:MapEntry} (hj:es[j]? =some en) (val:Value) :
 (Instr.entryStore mt (.map (some b)) (goInt en.born) val).run P w= .ok () {w with heap:=w.heap.setIfInBounds b (.map (es.modify j fun e=> {e with val:=val}) clock)} :=by
 have hidx:es.findIdx? (fun e=>((e.born:Nat):Int)==((en.born:Nat):Int))=some j:=by
  rw [WideElems.findIdx_arr];exact WideElems.findIdx_born hS.2.1 (by rw [zM];exact hj)
 simp [Instr.entryStore,MapKept.run_getObj_map hb,asInt,asIntOf,goInt,hidx,MapKept.run_setObj_map _ hb,Result.andThen]
theorem z4C (R:jM P T) {mt:TypeId} {x key:AV} {id:Nat} {kc:List AS} {ob:Ob} (he:z0G T mt st x key=some (id,kc,ob)) {k e:ETy} {m:List (k.T×List e.T)} (hid:hget st.hp id=some (.gmap k e m)): ∃ kt u,zFC P kt u k (.sl e):=by
 unfold z0G at he;split at he
 ·rename_i id' kc' kt u hkc hdc;split at he
  ·rename_i ki ui k' e' m' hki hui hid';split at he
   ·rename_i q hchk hdec;cases he;rw [hid] at hid';cases hid';simp only [zC,beq_iff_eq] at hchk;obtain ⟨⟨c1,c2⟩,c3⟩:=hchk;exact ⟨_,_,R.maps _ _ _ hdc _ _ _ _ hki hui (zBH c1) (zBH c2)⟩
   ·cases he
  ·cases he
 ·cases he
theorem z7D {kt u:TypeId} {k e:ETy} (hMO:zFC P kt u k (.sl e)) {m:List (k.T×List e.T)} {es:Array MapEntry} (hmat:MapAt σ k (.sl e) m es) (hn:(m.map (·.1)).Nodup) {base:Nat} (hF:zA0 σ w base e.size (es.toList.map (·.val)))
 {q:k.T} {dk:List Value} {σ0:Sig} (hkey:jG σ0 k q dk) {v:Value} (h:(∀ en∈es.toList,en.key≠yX k dk)/\v= .slice none 0 0\/∃ (j:Nat) (en:MapEntry),es[j]? =some en/\en.key=yX k dk/\en.val=v) :
 jG σ (.sl e) ((jS k m q).getD []) [v]/\zES σ w base e.size v/\((∀ en∈es.toList,en.key≠yX k dk)/\(∀ x∈m,x.1≠q)/\v= .slice none 0 0\/∃ (j:Nat) (en:MapEntry),es[j]? =some en/\en.key=yX k dk/\en.val=v/\∃ y,m[j]? =some (q,y)):=by
 rcases h with ⟨h1,rfl⟩|⟨j,en,h1,h2,rfl⟩
 ·have h2: ∀ x∈m,x.1≠q:=by
   rintro x hx rfl;obtain ⟨i,hi,rfl⟩:=yG.1 hx;obtain ⟨en,dk',dv',e1,e2,e3,_⟩:=hmat.2 i _ (zG hi);exact h1 en (by rw [<- zM] at e1;exact List.mem_of_getElem? e1) (by rw [e3];exact ((hMO.key.inj hkey e2).2 rfl).symm)
  refine ⟨?_,.inl rfl,.inl ⟨h1,h2,rfl⟩⟩;rw [(zCP h2).1];exact ⟨none,0,rfl,by simp,by simp,fun h=>(h rfl).elim⟩
 ·have hjl:=(zW.1 h1).1;rw [hmat.1] at hjl;obtain ⟨en',dk',dv',e1,e2,e3,_⟩:=hmat.2 j _ (zG hjl);rw [h1] at e1;cases e1;have hkq:q=(m[j]).1:=(hMO.key.inj hkey e2).1 (by rw [<- e3,h2]);have hm:m[j]? =some (q,(m[j]).2):=by rw [zG hjl];exact congrArg some (Prod.ext hkq.symm rfl)
  obtain ⟨g1,g2,_⟩:=z23 hmat hn hF hm h1;exact ⟨g1,g2,.inr ⟨j,en,h1,h2,rfl,_,hm⟩⟩
theorem eval_put_ne {d t:Tmp} {v:Value} (hne:d≠t):(a.put (some d) v).eval (.tmp t)=a.eval (.tmp t):=zHe hne
theorem eval_put_same {t:Tmp} {v:Value} (hlt:t<a.tmps.size):(a.put (some t) v).eval (.tmp t)=v:=zAo hlt
theorem zJl {hp hp':jJ} (h: ∀ id,hgp hp' id=hgp hp id) {t:TypeId} {x i:AV} {lit:Bool} :zA3 T t hp' x i lit=zA3 T t hp x i lit:=by
 unfold zA3;simp only [h]
theorem zES.cells {base sz:Nat} {v:Value} (h:zES σ w base sz v):v.cells.toList=[v]/\v.oneCell'=true:=by
 rcases h with rfl|⟨b,o,n,cap,c,c',T,rfl,_⟩<;>exact ⟨rfl,rfl⟩
theorem z4U (R:jM P T) {g:zNK} {hp0:jJ} {p:Bk} (h:z8V B N β g hp0 p st a w) {oA:Oper} {r2:List Oper} (hall: ∀ o∈oA::r2,yT N o=true) {q:Prop} {st3:St} {r3:List Oper}
 (he:z8c T g oA r2 st=some (q,st3,r3)) (hq:q) (hK: ∀ a3 w3,GA B N st3 a3 w3->(∀ o∈r3,yT N o=true)->wpListIn (FR r) n P ops Q r3 a3 w3):wpListIn (FR r) n P ops Q (oA::r2) a w:=by
 obtain ⟨σ,hg⟩:=h.gb.gg;have hpi:=h.pi;have hoA:=hall oA (by simp);unfold z8c at he;split at he
 case h_2=>cases he
 rename_i t y s hA hst;obtain ⟨hgu,hds,ts,hop⟩:=zB8 hA;have nodef: ∀ c,oA.op≠.defer c:=by intro c e;rw [hop] at e;cases e
 have hds':zBE (some s) a.tmps:=by rw [<- hds];exact zAb h.gb.size hoA
 have hsl:s<a.tmps.size:=hds' s rfl;split at he
 ·-- a map
  rename_i k e m htt hsh hid;obtain rfl:=zH htt;have hne:s≠g.h:=by rintro rfl;rw [Nat.beq_refl] at hsh;cases hsh
  have hid0:hget hp0 g.id=some (.gmap k e m):=by rw [<- h.hp];exact hid
  obtain ⟨hn,p',es,clock,q1,q2,q3,q4,hF,hS⟩:=hg.mem.ob _ _ hid;rw [h.at_] at q1;cases q1;have hmat:MapAt σ k (.sl e) m es:=⟨q3,q4⟩;split at he
  case h_2=>cases he
  rename_i qk b ys hdec hsrc;split at he
  ·-- laid back by an update
   rename_i d mt x kx s' ty pos aft r' hgk;split at he
   case h_2=>cases he
   rename_i id kc ob id' hk hss hxs;split at he
   case h_2=>cases he
   rename_i q' hdec' hid1 hid2;cases he;obtain ⟨hfit,rfl⟩:=hq;obtain rfl:=zH hid1;obtain rfl:=zH hid2;obtain rfl:=zH hss;simp only [PI,hgk] at hpi;obtain ⟨k0,e0,m0,qp,dk,σ0,es0,clock0,p1,p2,p3,p4,p5⟩:=hpi;rw [hid0] at p1;cases p1;rw [hdec] at p2;cases p2;rw [q2] at p4;cases p4;obtain ⟨kt',u',hMO⟩:=z4C R hk hid;obtain ⟨hv,hf,hwhere⟩:=z7D hMO hmat hn hF p3 p5;obtain ⟨v',w1,τ,f1,f2,f3,f4,f5,f6,f7,f8,f9⟩:=z8b R hg hst hid h.at_ hv hf hA rfl hoA hsrc hfit
   have hg1:=f2.put hds' (a:= .junk) (v:=v') trivial;have hoU:=hall _ (zQ _ zY)
   have hd2:zBE d (zHa a.tmps (some s) v'):=fun t' e'=>by
    have:=zAb (o:=⟨d,.mapUpdate mt x kx (.tmp s),ty,pos,aft,none⟩) h.gb.size hoU t' e';rw [qU];exact this
   have rep: ∀ z∈[x,kx],y6 τ β (y7 ((s,.junk)::st.env) z) ((a.put (some s) v').eval z):=fun z hz=>by
    simp only [yT,zC,zJ] at hoU;refine jP (a:=a.put (some s) v') (st:=({st with hp:=zDU st.hp g.id} :St).put (some s) .junk) hg1 (hoU.2 z ?_);simp [Op.operands] at hz ⊢;rcases hz with h|h<;>simp [h]
   have hxr:y6 τ β (y7 st.env x) ((a.put (some s) v').eval x):=by
    rw [z6Z hk];have:=rep x (by simp);rw [hxs] at this;exact this
   obtain ⟨kt,u,k1,e1,m1,q1,p1,es1,clock1,G⟩:=zJN R hg hxr (rep kx (by simp)) hk;have a1:=G.get;rw [hid] at a1;cases a1;have a2:=G.at_;rw [h.at_] at a2;cases a2;have a3:=G.heap;rw [q2] at a3;cases a3;have a4:=G.dec;rw [hdec'] at a4;cases a4;have hb1:w1.heap[p.b]? =some (.map es clock):=by rw [f7];exact q2
   obtain ⟨es',clock',hrun,hcase⟩:=z4W (w:=w1) G.ok R.ty G.desc hb1 (hmat.mono f3) G.key v';have hkk:yX k dk=yX k ((a.put (some s) v').eval kx).cells.toList:=(hMO.key.inj p3 G.key).2 rfl
   have hfin:MapAt τ k (.sl e) (zAB k m q' ((jS k m q').getD []++ys)) es'/\MapKept.Stamped es' clock'/\zA0 τ w1 p.b e.size (es'.toList.map (·.val)):=by
    rcases hcase with ⟨c1,c2,rfl,rfl⟩|⟨j,en,y',c1,c2,c3,rfl,rfl⟩
    ·obtain ⟨g1,g2⟩:=zTn (hmat.mono f3) hS G.key c1 f4;refine ⟨by rw [(zCP c2).2];exact g1,g2,?_⟩;rw [Array.toList_push,List.map_append];rcases hwhere with ⟨_,_,hnil⟩|⟨j,en,d1,d2,_⟩
     ·rw [hnil] at f6 f9;have:=zEt (v:= .slice none 0 0) (j:=(es.toList.map (·.val)).length) (zKJ hF) (by rw [List.getElem?_append_right (zI _)];simp) hg.mem.ag f6 f5 f9;rw [List.set_append_right _ _ (zI _)] at this;simpa using this
     ·exact (c1 en (by rw [<- zM] at d1;exact List.mem_of_getElem? d1) (by rw [d2,hkk])).elim
    ·obtain ⟨g1,g2,g3⟩:=zUh (f:=fun e=> {e with key:=yX k ((a.put (some s) v').eval kx).cells.toList,val:=v'}) (hmat.mono f3) hS G.key c1 c2 f4 (fun _=>⟨rfl,.inr rfl,rfl⟩);refine ⟨by rw [(zEB hn c3).2];exact g1,g2,?_⟩;rw [g3];rcases hwhere with ⟨d1,_,_⟩|⟨j',en',d1,d2,d3,_⟩
     ·exact (d1 en (by rw [<- zM] at c1;exact List.mem_of_getElem? c1) (by rw [c2,hkk])).elim
     ·have hjj:j'=j:=by
       have k1:(es.toList.map (·.key))[j']? =some (yX k dk):=by rw [List.getElem?_map,zM,d1,<- d2];rfl
       have k2:(es.toList.map (·.key))[j]? =some (yX k dk):=by rw [List.getElem?_map,zM,c1,hkk,<- c2];rfl
       have:=(zK.1 k1).1;have:=(zK.1 k2).1;exact (List.getElem?_inj (by assumption) hS.2.2).1 (k1.trans k2.symm)
      subst hjj;refine zEt hF ?_ hg.mem.ag f6 f5 f9;rw [List.getElem?_map,zM,d1,<- d3];rfl
   obtain ⟨m1,m2,m3⟩:=hfin;have h2:=zNN (st:=st.put (some s) .junk) (tmps:=zHa a.tmps (some s) v') hid h.at_ hg rfl hg1 f8 hb1 m1 (zEv _ hn) m2 m3;have h3:=h2.put hd2 (a:= .undef) (v:=undef) y6.undef;refine j5 hgu (zAd nodef f1 ?_);rw [hds];refine j5 rfl (zP2 (by intro c e;cases e) (w':= {w1 with heap:=w1.heap.setIfInBounds p.b (.map es' clock')}) ?_ ?_)
   ·rw [<- G.kv] at hrun;simp only [execOp,G.vx,eval_put_same hsl];simp [hrun]
   ·exact hK _ _ (zEU (by rw [put_defers];exact h.gb.defers) (by rw [jU,qU];exact h.gb.size) ⟨τ,β,h3⟩) fun o ho=>hall o (by simp [ho])
  ·-- laid back into its entry
   rename_i n2 hx2 ty1 pos1 aft1 d mt x n2' s' ty pos aft r' hgk;split at he
   case h_2=>cases he
   rename_i id hbb hns hxs;split at he
   case h_2=>cases he
   rename_i hid1;cases he;simp only [zC] at hbb;obtain ⟨⟨hb1,hb2⟩,hb3⟩:=hbb;obtain rfl:=zH hb1;obtain rfl:=zH hb2;obtain rfl:=zH hb3;obtain rfl:=zH hid1;have hns':n2≠s:=by rintro rfl;rw [Nat.beq_refl] at hns;cases hns
   simp only [PI,hgk] at hpi;obtain ⟨k0,e0,m0,qp,dk,σ0,es0,clock0,j,en,p1,p2,p3,p4,p5,p6,p7,p8,yy,p9⟩:=hpi;rw [hid0] at p1;cases p1;rw [hdec] at p2;cases p2;rw [q2] at p4;cases p4;obtain ⟨hv,hf,hval⟩:=z23 hmat hn hF p9 p5;rw [p7] at hv hf hval;obtain ⟨v',w1,τ,f1,f2,f3,f4,f5,f6,f7,f8,f9⟩:=z8b R hg hst hid h.at_ hv hf hA rfl hoA hsrc hq;have hg1:=f2.put hds' (a:= .junk) (v:=v') trivial;have hoU:=hall _ (zQ _ (zQ _ zY))
   have hoX:=hall _ (zQ _ zY)
   have hdn:zBE (some n2) (zHa a.tmps (some s) v'):=fun t' e'=>by
    have:=zAb (o:=⟨some n2,.extract (.tmp g.h) 1,ty1,pos1,aft1,none⟩) h.gb.size hoX t' e';rw [qU];exact this
   have hg2:=hg1.put hdn (a:= .junk) (v:=goInt en.born) trivial
   have hd2:zBE d (zHa (zHa a.tmps (some s) v') (some n2) (goInt en.born)):=fun t' e'=>by
    have:=zAb (o:=⟨d,.entryStore mt x (.tmp n2) (.tmp s),ty,pos,aft,none⟩) h.gb.size hoU t' e';rw [qU,qU];exact this
   have hxr:y6 τ β (.s (.omp g.id)) (((a.put (some s) v').put (some n2) (goInt en.born)).eval x):=by
    simp only [yT,zC,zJ] at hoU;have:=jP (a:=(a.put (some s) v').put (some n2) (goInt en.born)) (st:=(({st with hp:=zDU st.hp g.id} :St).put (some s) .junk).put (some n2) .junk) hg2 (hoU.2 x (by simp [Op.operands]));rw [<- hxs];exact this
   have hxv:((a.put (some s) v').put (some n2) (goInt en.born)).eval x= .map (some p.b):=by
    obtain ⟨p',e1,e2,_⟩:=hxr;rw [h.at_] at e1;cases e1;exact e2
   have hbw:w1.heap[p.b]? =some (.map es clock):=by rw [f7];exact q2
   obtain ⟨en2,dk2,dv2,t1,t2,t3,_⟩:=hmat.2 j _ p9;rw [p5] at t1;cases t1;obtain ⟨g1,g2,g3⟩:=zUh (f:=fun e=> {e with val:=v'}) (hmat.mono f3) hS (t2.mono f3) p5 t3 f4 (fun _=>⟨rfl,.inl rfl,rfl⟩)
   have hFF:zA0 τ w1 p.b e.size ((es.modify j fun e=> {e with val:=v'}).toList.map (·.val)):=by
    rw [g3];exact zEt hF hval hg.mem.ag f6 f5 f9
   rw [<- (zEB hn p9).2] at g1;have h2:=zNN (st:=(st.put (some s) .junk).put (some n2) .junk) (tmps:=zHa (zHa a.tmps (some s) v') (some n2) (goInt en.born)) hid h.at_ hg rfl hg2 f8 hbw g1 (zEv _ hn) g2 hFF;have h3:=h2.put hd2 (a:= .undef) (v:=undef) y6.undef;refine j5 hgu (zAd nodef f1 ?_);rw [hds];refine j5 rfl (zAd (v:=goInt en.born) (by intro c e;cases e) (w':=w1) ?_ ?_)
   ·simp only [execOp,eval_put_ne hne];rw [show a.eval (.tmp g.h)= .tuple #[a.tmps.getD g.t undef,goInt en.born] from p8];simp [Instr.extract]
   refine j5 rfl (zP2 (by intro c e;cases e) (w':= {w1 with heap:=w1.heap.setIfInBounds p.b (.map (es.modify j fun e=> {e with val:=v'}) clock)}) ?_ ?_)
   ·have hrun:=zJe (P:=P) (mt:=mt) hbw hS p5 v';simp only [execOp,hxv,eval_put_ne hns',eval_put_same hsl,eval_put_same (a:=a.put (some s) v') (t:=n2) (hdn n2 rfl)];simp [hrun]
   ·exact hK _ _ (zEU (by rw [put_defers,put_defers];exact h.gb.defers) (by rw [jU,jU,qU,qU];exact h.gb.size) ⟨τ,β,h3⟩) fun o ho=>hall o (by simp [ho])
  ·cases he
 ·-- a cell
  rename_i e u xss htt hsh hid;obtain rfl:=zH htt;have hid0:hget hp0 g.id=some (.grow e u xss):=by rw [<- h.hp];exact hid
  obtain ⟨h0,p',q1,q2,q3,q4,c,q5,q6,q7,hF⟩:=hg.mem.ob _ _ hid;rw [h.at_] at q1;cases q1;split at he
  case h_2=>cases he
  rename_i i b ys hkc hsrc;split at he
  case h_2=>cases he
  rename_i n1 tt x ix ty1 pos1 aft1 d et n2 s' ty pos aft r' hgk;split at he
  case h_2=>cases he
  rename_i q' id j hbb hns hca;split at he
  case h_2=>cases he
  rename_i hid1 hsz;cases he;obtain ⟨hfit,hq',hjj⟩:=hq;simp only [zC] at hbb;obtain ⟨hb1,hb2⟩:=hbb;obtain rfl:=zH hb1;obtain rfl:=zH hb2;obtain rfl:=zH hid1;have hsz:=zH hsz;have hns':n1≠s:=by rintro rfl;rw [Nat.beq_refl] at hns;cases hns
  simp only [PI,hgk] at hpi;obtain ⟨e0,u0,xss0,i',c0,p1,p2,p3,p4,p5⟩:=hpi;rw [hid0] at p1;cases p1;rw [hkc] at p2;cases p2;rw [q5] at p4;cases p4;have hjl:i'<xss.length:=p3;have hin:((i':Int).toNat)=i':=by omega
  rw [hin] at hjj hfit;have hjj:=hjj.symm;subst hjj;obtain ⟨v0,e1,e2⟩:=q7 i' _ (zG hjl);rw [p5] at e2;cases e2
  have hval:((c.toList.drop p.o).take p.L)[i']? =some (a.tmps.getD g.t undef):=by
   rw [List.getElem?_take,if_pos (by omega),List.getElem?_drop,zM];exact p5
  have hgx:xss.getD i' []=xss[i']:=by rw [zR,zG hjl];rfl
  rw [hgx] at hfit;obtain ⟨v',w1,τ,f1,f2,f3,f4,f5,f6,f7,f8,f9⟩:=z8b R hg hst hid h.at_ e1 (hF.1 _ (List.mem_of_getElem? hval)) hA rfl hoA hsrc hfit;have hsep:=hg.sep _ _ _ hid h.at_;have hg1:=f2.put hds' (a:= .junk) (v:=v') trivial;have hoth: ∀ (id':Nat) (ob':Ob) (p':Bk),id'≠g.id->hget st.hp id'=some ob'->β[id']? =some (some p')->p'.b≠p.b:=fun id' ob' p' hne hi hp'=>hsep.2.2 _ _ _ hne hi hp';have hobR:zAf τ β w1 g.id (.row (.sl e) u xss):=zAf.moved f3 (hg.mem.ob _ _ hid).pln rfl fun p' hp'=>by rw [h.at_] at hp';cases hp';exact f7
  have hgR:=GG.readd (st:=st.put (some s) .junk) (w'':=w1) hid hg1 h.at_ (fun _ _=>rfl) (Below.refl _ _) f8 hsep.2.1 hoth hobR;have hoU:=hall _ (zQ _ (zQ _ zY));have hoX:=hall _ (zQ _ zY)
  have rep: ∀ z∈[x,ix],y6 τ β (y7 ((s,.junk)::st.env) z) ((a.put (some s) v').eval z):=fun z hz=>by
   simp only [yT,zC,zJ] at hoX;refine jP (a:=a.put (some s) v') (st:=({st with hp:=zDU st.hp g.id} :St).put (some s) .junk) hg1 (hoX.2 z ?_);simp [Op.operands] at hz ⊢;rcases hz with h|h<;>simp [h]
  have hsame: ∀ id,hgp (zA6 st.hp g.id (.row (.sl e) u xss)) id=hgp st.hp id:=fun id=>by
   unfold hgp;rw [zAR ⟨_,hid⟩]
   by_cases e':id=g.id
   ·rw [if_pos e',e',hid];rfl
   ·rw [if_neg e']
  rw [<- zJl hsame] at hca;obtain ⟨_,hix⟩:=zDj R.ty hgR.mem (rep x (by simp)) (rep ix (by simp)) _ _ _ hca;obtain ⟨pv,r1,r2⟩:=hix hq';obtain ⟨p'',t1,t2,t3⟩:=r2;rw [h.at_] at t1;cases t1;have hpv:pv= .pointer (some ⟨p.b,p.o+i',none⟩):=by rw [t2,q2];simp
  have hdn:zBE (some n1) (zHa a.tmps (some s) v'):=fun t' e'=>by
   have:=zAb (o:=⟨some n1,.indexAddr tt x ix,ty1,pos1,aft1,none⟩) h.gb.size hoX t' e';rw [qU];exact this
  have hg2:=hg1.put hdn (a:= .junk) (v:=pv) trivial
  have hd2:zBE d (zHa (zHa a.tmps (some s) v') (some n1) pv):=fun t' e'=>by
   have:=zAb (o:=⟨d,.store et (.tmp n1) (.tmp s),ty,pos,aft,none⟩) h.gb.size hoU t' e';rw [qU,qU];exact this
  have hw5:w1.heap[p.b]? =some (.cells c u (0,0)):=by rw [f7];exact q5
  have hoff:p.o+i'<c.size:=by omega
  obtain ⟨hvc,hvo⟩:=f5.cells
  have hst5:=zCw (P:=P) (w:=w1) (ρ:=((a.put (some s) v').put (some n1) pv).eval) (o:=⟨d,.store et (.tmp n1) (.tmp s),ty,pos,aft,none⟩) R.ty rfl hw5
   (by rw [eval_put_same (a:=a.put (some s) v') (hdn n1 rfl)];exact hpv) (ds:=[v']) (by rw [eval_put_ne hns',eval_put_same hsl];exact hvc) (by rw [hsz];rfl) (by rw [hsz];simp) (by simp only [List.length_singleton];omega) (fun z hz=>by rw [zF.1 hz];exact hvo)
  have hcl:c.toList.take (p.o+i')++[v']++c.toList.drop (p.o+i'+[v'].length)=c.toList.set (p.o+i') v':=by
   rw [List.set_eq_take_append_cons_drop,if_pos (by simpa using hoff)];simp
  rw [hcl] at hst5;have hw6:=zBM (w:=w1) (c.toList.set (p.o+i') v').toArray hw5;have hother: ∀ k,k≠p.b->(w1.setRow p.b (c.toList.set (p.o+i') v').toArray).heap[k]? =w1.heap[k]? :=fun k hk=>setRow_other w1 p.b k _ hk
  have hob:zAf τ β (w1.setRow p.b (c.toList.set (p.o+i') v').toArray) g.id (.grow e u (xss.set i' (xss.getD i' []++ys))):=by
   refine ⟨by simpa using h0,p,h.at_,q2,by simpa using q3,q4,_,hw6,by simpa using q6,fun k x hx=> ?_,?_⟩
   ·rw [List.getElem?_set] at hx;split at hx
    ·rename_i e';subst e'
     first|(rw [if_pos hjl] at hx;cases hx)|cases hx
     refine ⟨v',by rw [hgx];exact f4,?_⟩;simp [hoff]
    ·rename_i hne;obtain ⟨v2,g1,g2⟩:=q7 k x hx;refine ⟨v2,g1.mono f3,?_⟩;rw [List.getElem?_toArray,List.getElem?_set_ne (by omega),zM];exact g2
   ·have:=zEt hF hval hg.mem.ag f6 f5 f9
    have e':(((c.toList.set (p.o+i') v').toArray.toList).drop p.o).take p.L=((c.toList.drop p.o).take p.L).set i' v':=by
     rw [List.drop_set,if_neg (by omega),List.take_set];congr 1;omega
    rw [e'];exact this.keep (fun _ _ e=>e) fun b o e=>hother b (by rintro rfl;rw [f8] at e;cases e)
  have h2:=GG.readd (st:=(st.put (some s) .junk).put (some n1) .junk) hid hg2 h.at_ (fun k hk=>hother k hk) (Below.setRow w1 p.b _ hsep.2.1) f8 hsep.2.1 hoth hob;have h3:=h2.put hd2 (a:= .undef) (v:=undef) y6.undef;refine j5 hgu (zAd nodef f1 ?_);rw [hds];refine j5 rfl (zAd (v:=pv) (by intro c e;cases e) (w':=w1) ?_ ?_)
  ·simp [execOp,r1]
  refine j5 rfl (zP2 (by intro c e;cases e) hst5 ?_);exact hK _ _ (zEU (by rw [put_defers,put_defers];exact h.gb.defers) (by rw [jU,jU,qU,qU];exact h.gb.size) ⟨τ,β,h3⟩) fun o ho=>hall o (by simp [ho])
 ·cases he
theorem zZH (R:jM P T) (h:GA B N st a w) {l:List Oper} (hall: ∀ o∈l,yT N o=true) {K:St->Prop} (hk:z3K T ops l st K) (hQ: ∀ st' a' w',K st'->GA B N st' a' w'->Q .normal a' w'):wpListIn (FR r) n P ops Q l a w:=by
 have rest: ∀ {l:List Oper} {st:St} {a:Act} {w:World},(∀ o∈l,yT N o=true)->GA B N st a w->zAN T false ops l st K->wpListIn (FR r) n P ops Q l a w:=by
  intro l st a w hall h hk;have:=zCe R (r:=r) (n:=n) (Q:=Q) [] l hall h hk fun st' a' w' hk' h'=>hQ _ _ _ hk' h';simpa using this
 unfold z3K at hk;split at hk
 ·rename_i g st1 r1 hs;rw [St.force_eq] at hk;refine zYU R h hall hs fun β p a1 w1 hp hall1=> ?_;refine zWM R r1 hall1 hp hk fun st2 a2 w2 oA r2 hk2 hp2 hall2=> ?_;split at hk2
  ·rename_i q st3 r3 he;obtain ⟨k1,k2⟩:=hk2.out;rw [St.force_eq] at k2;exact z4U R hp2 hall2 he k1 fun a3 w3 h3 hall3=>rest hall3 h3 k2
  ·exact hk2.elim
 ·exact rest hall h hk
theorem zZ9 (R:jM P T) {id:Nat} (hall: ∀ o∈ops.toList,yT N o=true) {K:St->Prop} (h:GA B N st a w) (hk:z5M T ops st K) (hQ: ∀ st' a' w',K st'->GA B N st' a' w'->Q .normal a' w') :
 (Code.region id ops false).wpIn (FR r) n P Q a w:=by
 refine wpIn_region_list ?_;unfold z5M at hk;split at hk
 ·rename_i i _
  have:=zCe R (r:=r) (n:=n) (Q:=Q) (ops.toList.drop i) (ops.toList.take i) (fun o ho=>hall o (List.mem_of_mem_take ho)) h hk fun st' a' w' hk' h' =>
   zZH R h' (fun o ho=>hall o (List.mem_of_mem_drop ho)) hk' hQ
  rw [jE] at this;exact this
 ·have:=zCe R (r:=r) (n:=n) (Q:=Q) [] ops.toList hall h hk fun st' a' w' hk' h'=>hQ _ _ _ hk' h';simpa using this
end
end Go.Vm
