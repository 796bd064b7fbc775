/- A part of the proofs of the laws. -/
import Derived.Test.YtlhoihabllompaaGreatVmCodetoVmGrow
import Derived.WideKeyEntry
import Derived.Sort.LoopGhostIn
import Derived.LoopNIn
import Derived.KernelRfl
set_option linter.unusedSimpArgs false
set_option linter.unusedVariables false
set_option maxHeartbeats 8000000
set_option maxRecDepth 100000
namespace Go.Vm
open Go.RowKit
section
variable {P:Program} {B:Base} {w w':World} {I τ:Sig} {M:yR} {st:St} {tmps:Array Value} {T:Tab} {N:Nat} {a:Act} {r:Option Nat} {n:Nat} {ops:Array Oper} {Q:Exit->Act->World->Prop}
theorem zYY (h:Mem I M st.hp w) {av:AV} {y:Value} (ha:y6 I M av y) {e:ETy} {ts:List TypeId} {b:Nat} {ys:List e.T} (hs:z7g T e ts av st.hp=some (b,ys)) :
 ∃ t u ui,ts=[t,t]/\T.desc t= .slice u/\T.info u=some ui/\ui.bytes=b/\ui.bytes≠0/\ui.size=e.size/\ui.size≠0/\ys≠[]/\
   ∃ ao c,y= .slice ao ys.length c/\(ys≠[]->∃ ad,ao=some ad/\∃ dss,jQ (jG I e) ys dss/\∀ (j:Nat) (u:Value),dss.flatten[j]? =some u->w.cell? (ad.add j)=some u):=by
 unfold z7g at hs;split at hs
 ·rename_i t t' e' y0 ys0 hv;split at hs
  ·rename_i u hee htt hdc _;subst hee;split at hs
   ·rename_i ui hui;split at hs
    ·rename_i hbz hsz hsz0;cases hs;obtain rfl:=zH htt;obtain ⟨ao,c,h1,_,h2⟩:=zOl h ha hv;exact ⟨t,u,ui,rfl,hdc,hui,rfl,(by intro e;rw [e] at hbz;cases hbz),zH hsz,(by intro e;rw [e] at hsz0;cases hsz0),by simp,ao,c,h1,h2⟩
    ·cases hs
   ·cases hs
  ·cases hs
 ·cases hs
theorem z8b (R:jM P T) (hg:GG B I M st a.tmps w) {id:Nat} {ob:Ob} {p:Bk} (hst:zGM id st.hp=true) (hid:hget st.hp id=some ob) (hp:M[id]? =some (some p)) {v:Value} {e:ETy} {xs:List e.T}
 (hv:jG I (.sl e) xs [v]) (hf:zES I w p.b e.size v) {oA:Oper} {x y:Operand} {d:Tmp} (hA:zDl oA=some (x,y,d)) (hx:a.eval x=v) (hoA:yT N oA=true)
 {b:Nat} {ys:List e.T} (hsrc:z7g T e (zWk oA) (y7 st.env y) st.hp=some (b,ys)) (hfit:zBT xs.length ys.length b) :
 ∃ v' w1 τ,(execOp a.eval oA).run P w= .ok (.value v') w1/\GG B τ M {st with hp:=zDU st.hp id} a.tmps w1/\I.le τ/\jG τ (.sl e) (xs++ys) [v']/\zES τ w1 p.b e.size v'/\
   (∀ b o,I b=some o->(∀ o2 n c,v≠.slice (some ⟨b,o2,none⟩) n c)->τ b=some o/\w1.heap[b]? =w.heap[b]?)/\w1.heap[p.b]? =w.heap[p.b]? /\τ p.b=none/\
   (∀ b o2 n c,v'= .slice (some ⟨b,o2,none⟩) n c->b=w.heap.size\/∃ o3 n3 c3,v= .slice (some ⟨b,o3,none⟩) n3 c3):=by
 obtain ⟨hgu,hds,ts,hop⟩:=zB8 hA
 have hy:y6 I M (y7 st.env y) (a.eval y):=by
  simp only [yT,zC,zJ] at hoA;exact jP hg (hoA.2 y (by simp [hop,Op.operands,Call.operands]))
 obtain ⟨t,u,ui,e1,e2,e3,e4,e5,e6,e7,e8,ao,c,e9,e10⟩:=zYY (st:=st) hg.mem hy hsrc
 have hts:ts= #[t,t]:=by
  have:zWk oA=ts.toList:=by simp [zWk,hop]
  rw [this] at e1;rw [<- Array.toArray_toList (xs:=ts),e1]
 subst hts;have hsep:=hg.sep _ _ _ hid hp;obtain ⟨v',w1,τ,f1,f2,f3,f4,f5,f6,f7,f8,f9⟩:=zO9 R.ty (hg.drop id) (zKf.drop hst) hsep.2.1 ((hg.mem.ob _ _ hid).lt hp) hv hf ⟨ao,c,e9,e10⟩ e8 oA.type e2 e3 e6 e7 e5 (by rw [e4];exact hfit);refine ⟨v',w1,τ,?_,f2,f3,f4,f5,f6,(f7 _ ((hg.mem.ob _ _ hid).lt hp) hsep.1).1,(f7 _ ((hg.mem.ob _ _ hid).lt hp) hsep.1).2,f8⟩;rw [<- hx] at f1;simp [execOp,hop,resolve,invoke,builtin,f1]
theorem MapAt.mono {k v:ETy} {m:List (k.T×v.T)} {es:Array MapEntry} (hs:I.le τ) (h:MapAt I k v m es):MapAt τ k v m es :=
 ⟨h.1,fun i x hx=>let ⟨en,dk,dv,e1,e2,e3,e4,e5⟩:=h.2 i x hx;⟨en,dk,dv,e1,e2.mono hs,e3,e4.mono hs,e5⟩⟩
theorem zTi {e:ETy} {xs:List e.T} {dv:List Value} (h:jG I (.sl e) xs dv):dv=[yX (.sl e) dv]:=by
 have:=h.length
 match dv,this with
 | [v],_=>rfl
theorem z23 {k e:ETy} {m:List (k.T×List e.T)} {es:Array MapEntry} (hmat:MapAt I k (.sl e) m es) (hn:(m.map (·.1)).Nodup) {base:Nat} (hF:zA0 I w base e.size (es.toList.map (·.val))) {j:Nat} {q:k.T} {y:List e.T} {en:MapEntry}
 (hm:m[j]? =some (q,y)) (hj:es[j]? =some en):jG I (.sl e) ((jS k m q).getD []) [en.val]/\zES I w base e.size en.val/\(es.toList.map (·.val))[j]? =some en.val:=by
 obtain ⟨en',dk,dv,e1,e2,e3,e4,e5⟩:=hmat.2 j _ hm;rw [hj] at e1;cases e1;have hval:(es.toList.map (·.val))[j]? =some en.val:=by rw [zbf,zM,hj];rfl
 refine ⟨?_,hF.1 _ (zbM hval),hval⟩;rw [(zEB hn hm).1,e5,<- zTi e4];exact e4
theorem z6Z {mt:TypeId} {x key:AV} {id:Nat} {kc:List AS} {ob:Ob} (he:z0G T mt st x key=some (id,kc,ob)):x= .s (.omp id):=by
 unfold z0G at he;split at he
 ·split at he
  ·split at he
   ·cases he;rfl
   ·cases he
  ·cases he
 ·cases he
theorem zNN {id:Nat} {k e:ETy} {m m':List (k.T×List e.T)} {p:Bk} (hid:hget st.hp id=some (.gmap k e m)) (hp:M[id]? =some (some p)) {tmps0:Array Value} {st0:St} (hg:GG B I M st0 tmps0 w) (hst0:st0.hp=st.hp)
 {w1:World} (h1:GG B τ M {st with hp:=zDU st.hp id} tmps w1) (hτ:τ p.b=none) {es es':Array MapEntry} {clock clock':Nat} (hb:w1.heap[p.b]? =some (.map es clock))
 (hm:MapAt τ k (.sl e) m' es') (hn:(m'.map (·.1)).Nodup) (hS:MapKept.Stamped es' clock') (hF:zA0 τ w1 p.b e.size (es'.toList.map (·.val))) :
 GG B τ M {st with hp:=zA6 st.hp id (.gmap k e m')} tmps {w1 with heap:=w1.heap.setIfInBounds p.b (.map es' clock')} :=by
 have hid0:hget st0.hp id=some (.gmap k e m):=by rw [hst0];exact hid
 have hsep:=hg.sep _ _ _ hid0 hp;obtain ⟨g1,g2⟩:=MapKept.heap_set (o':= .map es' clock') hb;have none_of: ∀ b o,τ b=some o->b≠p.b:=fun b o e=>by rintro rfl;rw [hτ] at e;cases e
 refine GG.readd hid h1 hp (fun k hk=>g2 k hk) ⟨⟨rfl,rfl,rfl,by simp,fun k hk=>g2 k (by have:=hsep.2.1;omega)⟩,zI _⟩ hτ hsep.2.1 (fun id' ob' p' hne hi hp'=> ?_) ?_
 ·exact hsep.2.2 _ _ _ hne (by rw [hst0];exact hi) hp'
 ·exact ⟨hn,p,es',clock',hp,g1,hm.1,hm.2,hF.keep (fun _ _ e=>e) (fun b o e=>g2 b (none_of b o e)),hS⟩
theorem zJe {mt:TypeId} {b:Nat} {es:Array MapEntry} {clock:Nat} (hb:w.heap[b]? =some (.map es clock)) (hS:MapKept.Stamped es clock) {j:Nat} {en:MapEntry} (hj:es[j]? =some en) (val:Value) :
 (Instr.entryStore mt (.map (some b)) (goInt en.born) val).run P w= .ok () {w with heap:=w.heap.setIfInBounds b (.map (es.modify j fun e=> {e with val:=val}) clock)} :=by
 have hidx:es.findIdx? (fun e=>((e.born:Nat):Int)==((en.born:Nat):Int))=some j:=by
  rw [WideElems.findIdx_arr];exact WideElems.findIdx_born hS.2.1 (by rw [zM];exact hj)
 simp [Instr.entryStore,MapKept.run_getObj_map hb,asInt,asIntOf,goInt,hidx,MapKept.run_setObj_map _ hb,Result.andThen]
theorem z4C (R:jM P T) {mt:TypeId} {x key:AV} {id:Nat} {kc:List AS} {ob:Ob} (he:z0G T mt st x key=some (id,kc,ob)) {k e:ETy} {m:List (k.T×List e.T)} (hid:hget st.hp id=some (.gmap k e m)): ∃ kt u,zFC P kt u k (.sl e):=by
 unfold z0G at he;split at he
 ·rename_i id' kc' kt u hkc hdc;split at he
  ·rename_i ki ui k' e' m' hki hui hid';split at he
   ·rename_i q hchk hdec;cases he;rw [hid] at hid';cases hid';simp only [zC,beq_iff_eq] at hchk;obtain ⟨⟨c1,c2⟩,c3⟩:=hchk;exact ⟨_,_,R.maps _ _ _ hdc _ _ _ _ hki hui (zBH c1) (zBH c2)⟩
   ·cases he
  ·cases he
 ·cases he
theorem z7D {kt u:TypeId} {k e:ETy} (hMO:zFC P kt u k (.sl e)) {m:List (k.T×List e.T)} {es:Array MapEntry} (hmat:MapAt I k (.sl e) m es) (hn:(m.map (·.1)).Nodup) {base:Nat} (hF:zA0 I w base e.size (es.toList.map (·.val)))
 {q:k.T} {dk:List Value} {σ0:Sig} (hkey:jG σ0 k q dk) {v:Value} (h:(∀ en∈es.toList,en.key≠yX k dk)/\v= .slice none 0 0\/∃ (j:Nat) (en:MapEntry),es[j]? =some en/\en.key=yX k dk/\en.val=v) :
 jG I (.sl e) ((jS k m q).getD []) [v]/\zES I w base e.size v/\((∀ en∈es.toList,en.key≠yX k dk)/\(∀ x∈m,x.1≠q)/\v= .slice none 0 0\/∃ (j:Nat) (en:MapEntry),es[j]? =some en/\en.key=yX k dk/\en.val=v/\∃ y,m[j]? =some (q,y)):=by
 rcases h with ⟨h1,rfl⟩|⟨j,en,h1,h2,rfl⟩
 ·have h2: ∀ x∈m,x.1≠q:=by
   rintro x hx rfl;obtain ⟨i,hi,rfl⟩:=yG.1 hx;obtain ⟨en,dk',dv',e1,e2,e3,_⟩:=hmat.2 i _ (zG hi);exact h1 en (by rw [<- zM] at e1;exact zbM e1) (by rw [e3];exact ((hMO.key.inj hkey e2).2 rfl).symm)
  refine ⟨?_,.inl rfl,.inl ⟨h1,h2,rfl⟩⟩;rw [(zCP h2).1];exact ⟨none,0,rfl,by simp,by simp,fun h=>(h rfl).elim⟩
 ·have hjl:=(zW.1 h1).1;rw [hmat.1] at hjl;obtain ⟨en',dk',dv',e1,e2,e3,_⟩:=hmat.2 j _ (zG hjl);rw [h1] at e1;cases e1;have hkq:q=(m[j]).1:=(hMO.key.inj hkey e2).1 (by rw [<- e3,h2]);have hm:m[j]? =some (q,(m[j]).2):=by rw [zG hjl];exact congrArg some (Prod.ext hkq.symm rfl)
  obtain ⟨g1,g2,_⟩:=z23 hmat hn hF hm h1;exact ⟨g1,g2,.inr ⟨j,en,h1,h2,rfl,_,hm⟩⟩
theorem eval_put_ne {d t:Tmp} {v:Value} (hne:d≠t):(a.put (some d) v).eval (.tmp t)=a.eval (.tmp t):=zHe hne
theorem eval_put_same {t:Tmp} {v:Value} (hlt:t<a.tmps.size):(a.put (some t) v).eval (.tmp t)=v:=zAo hlt
theorem zJl {hp hp':jJ} (h: ∀ id,hgp hp' id=hgp hp id) {t:TypeId} {x i:AV} {lit:Bool} :zA3 T t hp' x i lit=zA3 T t hp x i lit:=by
 unfold zA3;simp only [h]
theorem zES.cells {base sz:Nat} {v:Value} (h:zES I w base sz v):v.cells.toList=[v]/\v.oneCell'=true:=by
 rcases h with rfl|⟨b,o,n,cap,c,c',T,rfl,_⟩<;>exact ⟨rfl,rfl⟩
theorem z4U (R:jM P T) {g:zNK} {hp0:jJ} {p:Bk} (h:z8V B N M g hp0 p st a w) {oA:Oper} {r2:List Oper} (hall: ∀ o∈oA::r2,yT N o=true) {q:Prop} {st3:St} {r3:List Oper}
 (he:z8c T g oA r2 st=some (q,st3,r3)) (hq:q) (hK: ∀ a3 w3,GA B N st3 a3 w3->(∀ o∈r3,yT N o=true)->wpListIn (FR r) n P ops Q r3 a3 w3):wpListIn (FR r) n P ops Q (oA::r2) a w:=by
 obtain ⟨I,hg⟩:=h.gb.gg;have hpi:=h.pi;have hoA:=hall oA (by simp);unfold z8c at he;split at he
 case h_2=>cases he
 rename_i t y s hA hst;obtain ⟨hgu,hds,ts,hop⟩:=zB8 hA;have nodef: ∀ c,oA.op≠.defer c:=by intro c e;rw [hop] at e;cases e
 have hds':zBE (some s) a.tmps:=by rw [<- hds];exact zAb h.gb.size hoA
 have hsl:s<a.tmps.size:=hds' s rfl;split at he
 ·-- a map
  rename_i k e m htt hsh hid;obtain rfl:=zH htt;have hne:s≠g.h:=by rintro rfl;rw [zbJ] at hsh;cases hsh
  have hid0:hget hp0 g.id=some (.gmap k e m):=by rw [<- h.hp];exact hid
  obtain ⟨hn,p',es,clock,q1,q2,q3,q4,hF,hS⟩:=hg.mem.ob _ _ hid;rw [h.at_] at q1;cases q1;have hmat:MapAt I k (.sl e) m es:=⟨q3,q4⟩;split at he
  case h_2=>cases he
  rename_i qk b ys hdec hsrc;split at he
  ·-- laid back by an update
   rename_i d mt x kx s' ty pos aft r' hgk;split at he
   case h_2=>cases he
   rename_i id kc ob id' hk hss hxs;split at he
   case h_2=>cases he
   rename_i q' hdec' hid1 hid2;cases he;obtain ⟨hfit,rfl⟩:=hq;obtain rfl:=zH hid1;obtain rfl:=zH hid2;obtain rfl:=zH hss;simp only [PI,hgk] at hpi;obtain ⟨k0,e0,m0,qp,dk,σ0,es0,clock0,p1,p2,p3,p4,p5⟩:=hpi;rw [hid0] at p1;cases p1;rw [hdec] at p2;cases p2;rw [q2] at p4;cases p4;obtain ⟨kt',u',hMO⟩:=z4C R hk hid;obtain ⟨hv,hf,hwhere⟩:=z7D hMO hmat hn hF p3 p5;obtain ⟨v',w1,τ,f1,f2,f3,f4,f5,f6,f7,f8,f9⟩:=z8b R hg hst hid h.at_ hv hf hA rfl hoA hsrc hfit
   have hg1:=f2.put hds' (a:= .junk) (v:=v') trivial;have hoU:=hall _ (zQ _ zY)
   have hd2:zBE d (zHa a.tmps (some s) v'):=fun t' e'=>by
    have:=zAb (o:=⟨d,.mapUpdate mt x kx (.tmp s),ty,pos,aft,none⟩) h.gb.size hoU t' e';rw [qU];exact this
   have rep: ∀ z∈[x,kx],y6 τ M (y7 ((s,.junk)::st.env) z) ((a.put (some s) v').eval z):=fun z hz=>by
    simp only [yT,zC,zJ] at hoU;refine jP (a:=a.put (some s) v') (st:=({st with hp:=zDU st.hp g.id} :St).put (some s) .junk) hg1 (hoU.2 z ?_);simp [Op.operands] at hz ⊢;rcases hz with h|h<;>simp [h]
   have hxr:y6 τ M (y7 st.env x) ((a.put (some s) v').eval x):=by
    rw [z6Z hk];have:=rep x (by simp);rw [hxs] at this;exact this
   obtain ⟨kt,u,k1,e1,m1,q1,p1,es1,clock1,G⟩:=zJN R hg hxr (rep kx (by simp)) hk;have a1:=G.get;rw [hid] at a1;cases a1;have a2:=G.at_;rw [h.at_] at a2;cases a2;have a3:=G.heap;rw [q2] at a3;cases a3;have a4:=G.dec;rw [hdec'] at a4;cases a4;have hb1:w1.heap[p.b]? =some (.map es clock):=by rw [f7];exact q2
   obtain ⟨es',clock',hrun,hcase⟩:=z4W (w:=w1) G.ok R.ty G.desc hb1 (hmat.mono f3) G.key v';have hkk:yX k dk=yX k ((a.put (some s) v').eval kx).cells.toList:=(hMO.key.inj p3 G.key).2 rfl
   have hfin:MapAt τ k (.sl e) (zAB k m q' ((jS k m q').getD []++ys)) es'/\MapKept.Stamped es' clock'/\zA0 τ w1 p.b e.size (es'.toList.map (·.val)):=by
    rcases hcase with ⟨c1,c2,rfl,rfl⟩|⟨j,en,y',c1,c2,c3,rfl,rfl⟩
    ·obtain ⟨g1,g2⟩:=zTn (hmat.mono f3) hS G.key c1 f4;refine ⟨by rw [(zCP c2).2];exact g1,g2,?_⟩;rw [Array.toList_push,zbo];rcases hwhere with ⟨_,_,hnil⟩|⟨j,en,d1,d2,_⟩
     ·rw [hnil] at f6 f9;have:=zEt (v:= .slice none 0 0) (j:=(es.toList.map (·.val)).length) (zKJ hF) (by rw [zb8 (zI _)];simp) hg.mem.ag f6 f5 f9;rw [List.set_append_right _ _ (zI _)] at this;simpa using this
     ·exact (c1 en (by rw [<- zM] at d1;exact zbM d1) (by rw [d2,hkk])).elim
    ·obtain ⟨g1,g2,g3⟩:=zUh (f:=fun e=> {e with key:=yX k ((a.put (some s) v').eval kx).cells.toList,val:=v'}) (hmat.mono f3) hS G.key c1 c2 f4 (fun _=>⟨rfl,.inr rfl,rfl⟩);refine ⟨by rw [(zEB hn c3).2];exact g1,g2,?_⟩;rw [g3];rcases hwhere with ⟨d1,_,_⟩|⟨j',en',d1,d2,d3,_⟩
     ·exact (d1 en (by rw [<- zM] at c1;exact zbM c1) (by rw [c2,hkk])).elim
     ·have hjj:j'=j:=by
       have k1:(es.toList.map (·.key))[j']? =some (yX k dk):=by rw [zbf,zM,d1,<- d2];rfl
       have k2:(es.toList.map (·.key))[j]? =some (yX k dk):=by rw [zbf,zM,c1,hkk,<- c2];rfl
       have:=(zK.1 k1).1;have:=(zK.1 k2).1;exact (List.getElem?_inj (by assumption) hS.2.2).1 (k1.trans k2.symm)
      subst hjj;refine zEt hF ?_ hg.mem.ag f6 f5 f9;rw [zbf,zM,d1,<- d3];rfl
   obtain ⟨m1,m2,m3⟩:=hfin;have h2:=zNN (st:=st.put (some s) .junk) (tmps:=zHa a.tmps (some s) v') hid h.at_ hg rfl hg1 f8 hb1 m1 (zEv _ hn) m2 m3;have h3:=h2.put hd2 (a:= .undef) (v:=undef) y6.undef;refine j5 hgu (zAd nodef f1 ?_);rw [hds];refine j5 rfl (zP2 (by intro c e;cases e) (w':= {w1 with heap:=w1.heap.setIfInBounds p.b (.map es' clock')}) ?_ ?_)
   ·rw [<- G.kv] at hrun;simp only [execOp,G.vx,eval_put_same hsl];simp [hrun]
   ·exact hK _ _ (zEU (by rw [put_defers];exact h.gb.defers) (by rw [jU,qU];exact h.gb.size) ⟨τ,M,h3⟩) fun o ho=>hall o (by simp [ho])
  ·-- laid back into its entry
   rename_i n2 hx2 ty1 pos1 aft1 d mt x n2' s' ty pos aft r' hgk;split at he
   case h_2=>cases he
   rename_i id hbb hns hxs;split at he
   case h_2=>cases he
   rename_i hid1;cases he;simp only [zC] at hbb;obtain ⟨⟨hb1,hb2⟩,hb3⟩:=hbb;obtain rfl:=zH hb1;obtain rfl:=zH hb2;obtain rfl:=zH hb3;obtain rfl:=zH hid1;have hns':n2≠s:=by rintro rfl;rw [zbJ] at hns;cases hns
   simp only [PI,hgk] at hpi;obtain ⟨k0,e0,m0,qp,dk,σ0,es0,clock0,j,en,p1,p2,p3,p4,p5,p6,p7,p8,yy,p9⟩:=hpi;rw [hid0] at p1;cases p1;rw [hdec] at p2;cases p2;rw [q2] at p4;cases p4;obtain ⟨hv,hf,hval⟩:=z23 hmat hn hF p9 p5;rw [p7] at hv hf hval;obtain ⟨v',w1,τ,f1,f2,f3,f4,f5,f6,f7,f8,f9⟩:=z8b R hg hst hid h.at_ hv hf hA rfl hoA hsrc hq;have hg1:=f2.put hds' (a:= .junk) (v:=v') trivial;have hoU:=hall _ (zQ _ (zQ _ zY))
   have hoX:=hall _ (zQ _ zY)
   have hdn:zBE (some n2) (zHa a.tmps (some s) v'):=fun t' e'=>by
    have:=zAb (o:=⟨some n2,.extract (.tmp g.h) 1,ty1,pos1,aft1,none⟩) h.gb.size hoX t' e';rw [qU];exact this
   have hg2:=hg1.put hdn (a:= .junk) (v:=goInt en.born) trivial
   have hd2:zBE d (zHa (zHa a.tmps (some s) v') (some n2) (goInt en.born)):=fun t' e'=>by
    have:=zAb (o:=⟨d,.entryStore mt x (.tmp n2) (.tmp s),ty,pos,aft,none⟩) h.gb.size hoU t' e';rw [qU,qU];exact this
   have hxr:y6 τ M (.s (.omp g.id)) (((a.put (some s) v').put (some n2) (goInt en.born)).eval x):=by
    simp only [yT,zC,zJ] at hoU;have:=jP (a:=(a.put (some s) v').put (some n2) (goInt en.born)) (st:=(({st with hp:=zDU st.hp g.id} :St).put (some s) .junk).put (some n2) .junk) hg2 (hoU.2 x (by simp [Op.operands]));rw [<- hxs];exact this
   have hxv:((a.put (some s) v').put (some n2) (goInt en.born)).eval x= .map (some p.b):=by
    obtain ⟨p',e1,e2,_⟩:=hxr;rw [h.at_] at e1;cases e1;exact e2
   have hbw:w1.heap[p.b]? =some (.map es clock):=by rw [f7];exact q2
   obtain ⟨en2,dk2,dv2,t1,t2,t3,_⟩:=hmat.2 j _ p9;rw [p5] at t1;cases t1;obtain ⟨g1,g2,g3⟩:=zUh (f:=fun e=> {e with val:=v'}) (hmat.mono f3) hS (t2.mono f3) p5 t3 f4 (fun _=>⟨rfl,.inl rfl,rfl⟩)
   have hFF:zA0 τ w1 p.b e.size ((es.modify j fun e=> {e with val:=v'}).toList.map (·.val)):=by
    rw [g3];exact zEt hF hval hg.mem.ag f6 f5 f9
   rw [<- (zEB hn p9).2] at g1;have h2:=zNN (st:=(st.put (some s) .junk).put (some n2) .junk) (tmps:=zHa (zHa a.tmps (some s) v') (some n2) (goInt en.born)) hid h.at_ hg rfl hg2 f8 hbw g1 (zEv _ hn) g2 hFF;have h3:=h2.put hd2 (a:= .undef) (v:=undef) y6.undef;refine j5 hgu (zAd nodef f1 ?_);rw [hds];refine j5 rfl (zAd (v:=goInt en.born) (by intro c e;cases e) (w':=w1) ?_ ?_)
   ·simp only [execOp,eval_put_ne hne];rw [show a.eval (.tmp g.h)= .tuple #[a.tmps.getD g.t undef,goInt en.born] from p8];simp [Instr.extract]
   refine j5 rfl (zP2 (by intro c e;cases e) (w':= {w1 with heap:=w1.heap.setIfInBounds p.b (.map (es.modify j fun e=> {e with val:=v'}) clock)}) ?_ ?_)
   ·have hrun:=zJe (P:=P) (mt:=mt) hbw hS p5 v';simp only [execOp,hxv,eval_put_ne hns',eval_put_same hsl,eval_put_same (a:=a.put (some s) v') (t:=n2) (hdn n2 rfl)];simp [hrun]
   ·exact hK _ _ (zEU (by rw [put_defers,put_defers];exact h.gb.defers) (by rw [jU,jU,qU,qU];exact h.gb.size) ⟨τ,M,h3⟩) fun o ho=>hall o (by simp [ho])
  ·cases he
 ·-- a cell
  rename_i e u xss htt hsh hid;obtain rfl:=zH htt;have hid0:hget hp0 g.id=some (.grow e u xss):=by rw [<- h.hp];exact hid
  obtain ⟨h0,p',q1,q2,q3,q4,c,q5,q6,q7,hF⟩:=hg.mem.ob _ _ hid;rw [h.at_] at q1;cases q1;split at he
  case h_2=>cases he
  rename_i i b ys hkc hsrc;split at he
  case h_2=>cases he
  rename_i n1 tt x ix ty1 pos1 aft1 d et n2 s' ty pos aft r' hgk;split at he
  case h_2=>cases he
  rename_i q' id j hbb hns hca;split at he
  case h_2=>cases he
  rename_i hid1 hsz;cases he;obtain ⟨hfit,hq',hjj⟩:=hq;simp only [zC] at hbb;obtain ⟨hb1,hb2⟩:=hbb;obtain rfl:=zH hb1;obtain rfl:=zH hb2;obtain rfl:=zH hid1;have hsz:=zH hsz;have hns':n1≠s:=by rintro rfl;rw [zbJ] at hns;cases hns
  simp only [PI,hgk] at hpi;obtain ⟨e0,u0,xss0,i',c0,p1,p2,p3,p4,p5⟩:=hpi;rw [hid0] at p1;cases p1;rw [hkc] at p2;cases p2;rw [q5] at p4;cases p4;have hjl:i'<xss.length:=p3;have hin:((i':Int).toNat)=i':=by omega
  rw [hin] at hjj hfit;have hjj:=hjj.symm;subst hjj;obtain ⟨v0,e1,e2⟩:=q7 i' _ (zG hjl);rw [p5] at e2;cases e2
  have hval:((c.toList.drop p.o).take p.L)[i']? =some (a.tmps.getD g.t undef):=by
   rw [zbC,if_pos (by omega),zbd,zM];exact p5
  have hgx:xss.getD i' []=xss[i']:=by rw [zR,zG hjl];rfl
  rw [hgx] at hfit;obtain ⟨v',w1,τ,f1,f2,f3,f4,f5,f6,f7,f8,f9⟩:=z8b R hg hst hid h.at_ e1 (hF.1 _ (zbM hval)) hA rfl hoA hsrc hfit;have hsep:=hg.sep _ _ _ hid h.at_;have hg1:=f2.put hds' (a:= .junk) (v:=v') trivial;have hoth: ∀ (id':Nat) (ob':Ob) (p':Bk),id'≠g.id->hget st.hp id'=some ob'->M[id']? =some (some p')->p'.b≠p.b:=fun id' ob' p' hne hi hp'=>hsep.2.2 _ _ _ hne hi hp';have hobR:zAf τ M w1 g.id (.row (.sl e) u xss):=zAf.moved f3 (hg.mem.ob _ _ hid).pln rfl fun p' hp'=>by rw [h.at_] at hp';cases hp';exact f7
  have hgR:=GG.readd (st:=st.put (some s) .junk) (w'':=w1) hid hg1 h.at_ (fun _ _=>rfl) (Below.refl _ _) f8 hsep.2.1 hoth hobR;have hoU:=hall _ (zQ _ (zQ _ zY));have hoX:=hall _ (zQ _ zY)
  have rep: ∀ z∈[x,ix],y6 τ M (y7 ((s,.junk)::st.env) z) ((a.put (some s) v').eval z):=fun z hz=>by
   simp only [yT,zC,zJ] at hoX;refine jP (a:=a.put (some s) v') (st:=({st with hp:=zDU st.hp g.id} :St).put (some s) .junk) hg1 (hoX.2 z ?_);simp [Op.operands] at hz ⊢;rcases hz with h|h<;>simp [h]
  have hsame: ∀ id,hgp (zA6 st.hp g.id (.row (.sl e) u xss)) id=hgp st.hp id:=fun id=>by
   unfold hgp;rw [zAR ⟨_,hid⟩]
   by_cases e':id=g.id
   ·rw [if_pos e',e',hid];rfl
   ·rw [if_neg e']
  rw [<- zJl hsame] at hca;obtain ⟨_,hix⟩:=zDj R.ty hgR.mem (rep x (by simp)) (rep ix (by simp)) _ _ _ hca;obtain ⟨pv,r1,r2⟩:=hix hq';obtain ⟨p'',t1,t2,t3⟩:=r2;rw [h.at_] at t1;cases t1;have hpv:pv= .pointer (some ⟨p.b,p.o+i',none⟩):=by rw [t2,q2];simp
  have hdn:zBE (some n1) (zHa a.tmps (some s) v'):=fun t' e'=>by
   have:=zAb (o:=⟨some n1,.indexAddr tt x ix,ty1,pos1,aft1,none⟩) h.gb.size hoX t' e';rw [qU];exact this
  have hg2:=hg1.put hdn (a:= .junk) (v:=pv) trivial
  have hd2:zBE d (zHa (zHa a.tmps (some s) v') (some n1) pv):=fun t' e'=>by
   have:=zAb (o:=⟨d,.store et (.tmp n1) (.tmp s),ty,pos,aft,none⟩) h.gb.size hoU t' e';rw [qU,qU];exact this
  have hw5:w1.heap[p.b]? =some (.cells c u (0,0)):=by rw [f7];exact q5
  have hoff:p.o+i'<c.size:=by omega
  obtain ⟨hvc,hvo⟩:=f5.cells
  have hst5:=zCw (P:=P) (w:=w1) (ρ:=((a.put (some s) v').put (some n1) pv).eval) (o:=⟨d,.store et (.tmp n1) (.tmp s),ty,pos,aft,none⟩) R.ty rfl hw5
   (by rw [eval_put_same (a:=a.put (some s) v') (hdn n1 rfl)];exact hpv) (ds:=[v']) (by rw [eval_put_ne hns',eval_put_same hsl];exact hvc) (by rw [hsz];rfl) (by rw [hsz];simp) (by simp only [List.length_singleton];omega) (fun z hz=>by rw [zF.1 hz];exact hvo)
  have hcl:c.toList.take (p.o+i')++[v']++c.toList.drop (p.o+i'+[v'].length)=c.toList.set (p.o+i') v':=by
   rw [List.set_eq_take_append_cons_drop,if_pos (by simpa using hoff)];simp
  rw [hcl] at hst5;have hw6:=zBM (w:=w1) (c.toList.set (p.o+i') v').toArray hw5;have hother: ∀ k,k≠p.b->(w1.setRow p.b (c.toList.set (p.o+i') v').toArray).heap[k]? =w1.heap[k]? :=fun k hk=>setRow_other w1 p.b k _ hk
  have hob:zAf τ M (w1.setRow p.b (c.toList.set (p.o+i') v').toArray) g.id (.grow e u (xss.set i' (xss.getD i' []++ys))):=by
   refine ⟨by simpa using h0,p,h.at_,q2,by simpa using q3,q4,_,hw6,by simpa using q6,fun k x hx=> ?_,?_⟩
   ·rw [zbQ] at hx;split at hx
    ·rename_i e';subst e'
     first|(rw [if_pos hjl] at hx;cases hx)|cases hx
     refine ⟨v',by rw [hgx];exact f4,?_⟩;simp [hoff]
    ·rename_i hne;obtain ⟨v2,g1,g2⟩:=q7 k x hx;refine ⟨v2,g1.mono f3,?_⟩;rw [List.getElem?_toArray,zba (by omega),zM];exact g2
   ·have:=zEt hF hval hg.mem.ag f6 f5 f9
    have e':(((c.toList.set (p.o+i') v').toArray.toList).drop p.o).take p.L=((c.toList.drop p.o).take p.L).set i' v':=by
     rw [List.drop_set,if_neg (by omega),List.take_set];congr 1;omega
    rw [e'];exact this.keep (fun _ _ e=>e) fun b o e=>hother b (by rintro rfl;rw [f8] at e;cases e)
  have h2:=GG.readd (st:=(st.put (some s) .junk).put (some n1) .junk) hid hg2 h.at_ (fun k hk=>hother k hk) (Below.setRow w1 p.b _ hsep.2.1) f8 hsep.2.1 hoth hob;have h3:=h2.put hd2 (a:= .undef) (v:=undef) y6.undef;refine j5 hgu (zAd nodef f1 ?_);rw [hds];refine j5 rfl (zAd (v:=pv) (by intro c e;cases e) (w':=w1) ?_ ?_)
  ·simp [execOp,r1]
  refine j5 rfl (zP2 (by intro c e;cases e) hst5 ?_);exact hK _ _ (zEU (by rw [put_defers,put_defers];exact h.gb.defers) (by rw [jU,jU,qU,qU];exact h.gb.size) ⟨τ,M,h3⟩) fun o ho=>hall o (by simp [ho])
 ·cases he
theorem zZH (R:jM P T) (h:GA B N st a w) {l:List Oper} (hall: ∀ o∈l,yT N o=true) {K:St->Prop} (hk:z3K T ops l st K) (hQ: ∀ st' a' w',K st'->GA B N st' a' w'->Q .normal a' w'):wpListIn (FR r) n P ops Q l a w:=by
 have rest: ∀ {l:List Oper} {st:St} {a:Act} {w:World},(∀ o∈l,yT N o=true)->GA B N st a w->zAN T false ops l st K->wpListIn (FR r) n P ops Q l a w:=by
  intro l st a w hall h hk;have:=zCe R (r:=r) (n:=n) (Q:=Q) [] l hall h hk fun st' a' w' hk' h'=>hQ _ _ _ hk' h';simpa using this
 unfold z3K at hk;split at hk
 ·rename_i g st1 r1 hs;rw [St.force_eq] at hk;refine zYU R h hall hs fun M p a1 w1 hp hall1=> ?_;refine zWM R r1 hall1 hp hk fun st2 a2 w2 oA r2 hk2 hp2 hall2=> ?_;split at hk2
  ·rename_i q st3 r3 he;obtain ⟨k1,k2⟩:=hk2.out;rw [St.force_eq] at k2;exact z4U R hp2 hall2 he k1 fun a3 w3 h3 hall3=>rest hall3 h3 k2
  ·exact hk2.elim
 ·exact rest hall h hk
theorem zZ9 (R:jM P T) {id:Nat} (hall: ∀ o∈ops.toList,yT N o=true) {K:St->Prop} (h:GA B N st a w) (hk:z5M T ops st K) (hQ: ∀ st' a' w',K st'->GA B N st' a' w'->Q .normal a' w') :
 (Code.region id ops false).wpIn (FR r) n P Q a w:=by
 refine wpIn_region_list ?_;unfold z5M at hk;split at hk
 ·rename_i i _
  have:=zCe R (r:=r) (n:=n) (Q:=Q) (ops.toList.drop i) (ops.toList.take i) (fun o ho=>hall o (zbL ho)) h hk fun st' a' w' hk' h' =>
   zZH R h' (fun o ho=>hall o (zb1 ho)) hk' hQ
  rw [jE] at this;exact this
 ·have:=zCe R (r:=r) (n:=n) (Q:=Q) [] ops.toList hall h hk fun st' a' w' hk' h'=>hQ _ _ _ hk' h';simpa using this
end
end Go.Vm
namespace Go.Vm
open Go.RowKit
section
variable {P:Program} {B:Base} {w:World} {I:Sig} {M:yR} {st:St} {T:Tab} {N:Nat} {a:Act} {r:Option Nat} {n:Nat} {ops:Array Oper} {Q:Exit->Act->World->Prop}
theorem zEi (h:GA B N st a w) (hb:Below B.w.heap.size w {w with drawn:=w.drawn+1}):GA B N st a {w with drawn:=w.drawn+1} :=by
 obtain ⟨I,M,hg⟩:=h.gg;exact ⟨h.defers,h.size,I,M,⟨hg.mem.ag,fun id ob hi=>(hg.mem.ob id ob hi).same (fun _ _=>rfl) fun _ _ _=>rfl⟩,hg.env,hg.len,hg.sep,hg.bel.trans hb,hg.grew⟩
theorem zOo {o:Oper} {t:TypeId} (h:jC o.op=some t):j0 o.op=false:=by rw [zG6 h];rfl
theorem zSu {D:List Tmp} : ∀ {l:List Oper},zSN ops D l=true->∀ o∈l,j0 o.op=true->∀ t∈o.looksAt ops,t∉D:=by
 intro l
 induction l with
 | nil=>intro _ o ho;cases ho
 | cons x l ih =>
   intro h o ho hc t ht;simp only [zSN,zC] at h;rcases zT.1 ho with rfl|ho
   ·have:=h.1;simp only [hc,Bool.not_true,Bool.false_or,zJ] at this;simpa using this t ht
   ·exact ih h.2 o ho hc t ht
theorem zJn {o:Oper} {t:TypeId} {d:Tmp} (ha:jC o.op=some t) (hd:o.dst=some d): ∀ {l:List Oper},o∈l->d∈jZ l:=by
 intro l
 induction l with
 | nil=>intro ho;cases ho
 | cons x l ih =>
   intro ho;simp only [jZ];rcases zT.1 ho with rfl|ho
   ·rw [ha,hd];simp
   ·have:=ih ho;split
    ·exact zQ _ this
    ·exact this
structure PF (B:Base) (N:Nat) (T:Tab) (ops:Array Oper) (k:Nat) (D:List Tmp) (hp:jJ) (nx:Nat) (gf:Nat->List AS) (i:Nat) (env0:Env) (st:St) (a:Act) (w:World):Prop where
 ga:GA B N ⟨env0,hp,nx⟩ a w
 same: ∀ x,x∉D->yZ st.env x=yZ env0 x
 next:st.next=nx+zBO ops.toList i
 ext:z7j nx hp st.hp
 done: ∀ j t,zAx ops k j t->j<i->∃ ti,T.info t=some ti/\hget st.hp (nx+zBO ops.toList j)=some (.flat t (z0g ops k gf (fun x=>Nat.blt x i) ti.zero j))
 only: ∀ id ob,hget st.hp id=some ob->id<nx\/∃ j t,zAx ops k j t/\j<i/\id=nx+zBO ops.toList j
 slots: ∀ (j:Nat) (t:TypeId) (oj:Oper) (d:Tmp),zAx ops k j t->j<i->ops[j]? =some oj->oj.dst=some d->yZ st.env d= .s (.ptr (nx+zBO ops.toList j) 0 0)
theorem zGv {a b:Nat} :Nat.blt a b=true↔a<b:=by simp [Nat.blt];omega
theorem zM6 {i x:Nat} (h:x≠i):Nat.blt x i=Nat.blt x (i+1):=by
 rw [Bool.eq_iff_iff,zGv,zGv];omega
theorem zJ9: ∀ (l:List Oper) (i:Nat) (o:Oper),l[i]? =some o->zBO l (i+1)=zBO l i+(match jC o.op with|some _=>1|none=>0)
 | [],i,o,h=>by simp at h
 | x::l,0,o,h=>by
   simp at h;subst h;simp only [zBO];cases l<;>simp only [zBO]<;>cases jC x.op<;>rfl
 | x::l,i+1,o,h=>by
   simp only [zBO];rw [zJ9 l i o (by simpa using h)];omega
theorem zLA {e:Fr} {d:Option Tmp} {v:AV} {x:Tmp} (h: ∀ t,d=some t->t≠x):upd e d v x=e x:=by
 cases d with
 | none=>rfl
 | some t=>simp only [upd];rw [if_neg (h t rfl)]
theorem zCX (R:jM P T) {k:Nat} {D:List Tmp} {hp:jJ} {nx:Nat} (hF:z1W ops k) (hDn: ∀ (j:Nat) (o:Oper) (d:Tmp),j<k->ops[j]? =some o->jC o.op=none->o.dst=some d->d∉D) (hD: ∀ (j:Nat) (o:Oper) (t:TypeId) (d:Tmp),j<k->ops[j]? =some o->jC o.op=some t->o.dst=some d->d∈D)
 (hall: ∀ (j:Nat) (o:Oper),j<k->ops[j]? =some o->yT N o=true/\zUW o=true/\(j0 o.op=true->∀ t∈o.looksAt ops,t∉D)) :
 ∀ (l1 l2:List Oper) (i:Nat) {gf0:Nat->List AS} {st:St} {env0:Env} {a:Act} {w:World} {K:St->Prop},i+l1.length=k->(∀ j:Nat,j<l1.length->l1[j]? =ops[i+j]?)->PF B N T ops k D hp nx gf0 i env0 st a w->zAN T true ops (l1++l2) st K->
 ∃ gf env0' st' a' w',(∀ x,x<i->gf x=gf0 x)/\zAl (Yields T ops hp nx gf) (yZ st'.env) i l1 (yZ st.env)/\zAN T true ops l2 st' K/\PF B N T ops k D hp nx gf k env0' st' a' w'
 | [],l2,i,gf0,st,env0,a,w,K,hik,_,h,hk=>by
   simp only [List.length_nil,zcB] at hik;subst hik;exact ⟨gf0,env0,st,a,w,fun _ _=>rfl,rfl,hk,h⟩
 | o ::l1,l2,i,gf0,st,env0,a,w,K,hik,hl,h,hk=>by
   simp only [yA] at hik;have h0:ops[i]? =some o:=by simpa using (hl 0 (by simp)).symm
   have h0l:ops.toList[i]? =some o:=by simpa using h0
   have hl': ∀ j:Nat,j<l1.length->l1[j]? =ops[i+1+j]? :=fun j hj=>by
    have:=hl (j+1) (by simp;omega);simpa [zbi,Nat.add_comm 1 j] using this
   obtain ⟨ho,hpre,hlook⟩:=hall i o (by omega) h0;obtain ⟨env1,hp1,nx1⟩:=st;cases ha:jC o.op with
   | some t =>
     have hop:=zG6 ha
     have hg:o.guard=none:=by
      unfold zUW at hpre;rw [zOo ha] at hpre;simp only [Bool.false_or,zC] at hpre;exact Option.isNone_iff_eq_none.1 hpre.2
     have nini: ∀ {i' j:Nat},initOf ops k j=some i'->i'≠i:=fun {i' j} hj e=>by
      obtain ⟨_,o',_,_,_,_,ho',_,hin,_⟩:=zAM hj;rw [e,h0] at ho';cases ho';rw [zHG hin] at ha;cases ha
     have hat:zAx ops k i t:=⟨by omega,o,h0,ha⟩;have hsucc:=zJ9 _ _ _ h0l;rw [ha] at hsucc;simp only at hsucc;simp only [zcA,zAN,hg] at hk
     have hastep:zBr T true o ⟨env1,hp1,nx1⟩=(match T.info t with|some ti=>some (none,none,zC1 ⟨env1,hp1,nx1⟩ o.dst t ti.zero)|none=>none):=by
      simp only [zBr,jY,jO,hop,zCG,zJg,zGd];cases T.info t<;>rfl
     simp only [aop] at hk;unfold zSI at hk;rw [hastep] at hk;simp only [St.force_eq] at hk;cases hti:T.info t with
     | none=>rw [hti] at hk;exact hk.elim
     | some ti =>
       rw [hti] at hk;simp only at hk;have hnx:nx1=nx+zBO ops.toList i:=h.next
       have e1:zC1 ⟨env1,hp1,nx1⟩ o.dst t ti.zero=(⟨env1,(nx1,.flat t ti.zero)::hp1,nx1+1⟩:St).put o.dst (.s (.ptr nx1 0 0)):=rfl;rw [e1] at hk;obtain ⟨env',e2,e3⟩:=zAK env1 ((nx1,.flat t ti.zero)::hp1) (nx1+1) o.dst (.s (.ptr nx1 0 0));rw [e2] at hk
       have hPF:PF B N T ops k D hp nx gf0 (i+1) env0 ⟨env',(nx1,.flat t ti.zero)::hp1,nx1+1⟩ a w:=by
        refine ⟨h.ga,fun x hx=> ?_,by show nx1+1=_;rw [hsucc];omega,fun id hid=> ?_,fun j u hj hji=> ?_,fun id ob hi=> ?_,fun j u oj d hj hji hoj hd=> ?_⟩
        ·show yZ env' x=_;rw [e3,zLA fun d hd e=>hx (by subst e;exact hD i o t d (by omega) h0 ha hd)];exact h.same x hx
        ·rw [yL,if_neg (by omega)];exact h.ext id hid
        ·show ∃ ti',_/\hget ((nx1,.flat t ti.zero)::hp1) _=_;rw [yL]
         by_cases e:i=j
         ·subst e;obtain ⟨_,o',ho',ha'⟩:=hj;rw [h0] at ho';cases ho';rw [ha] at ha';cases ha';refine ⟨ti,hti,?_⟩;rw [if_pos hnx,zEh fun i' hi'=> ?_];obtain ⟨hi'k,o',oj',t',d',x',r1,r2,r3,r4⟩:=zAM hi';rw [h0] at r2;cases r2;obtain ⟨j2,oj2,s1,s2,s3,s4⟩:=hF.has _ _ _ _ _ hi'k r1 r3;have:=hF.inj i j2 _ _ _ _ _ (by omega) (by omega) h0 s2 ha s3 r4 s4;subst this;rw [<- zbV,zGv];omega
         ·rw [if_neg (fun e'=>e (zEd hat hj (by omega)))];obtain ⟨ti',q1,q2⟩:=h.done j u hj (by omega);refine ⟨ti',q1,?_⟩;rw [show hget hp1 (nx+zBO ops.toList j)=_ from q2,zBc (gf':=gf0) (was':=fun x=>Nat.blt x (i+1)) fun i' hi'=>⟨zM6 (nini hi'),fun _=>rfl⟩]
        ·simp only [yL] at hi;split at hi
         ·rename_i e;exact .inr ⟨i,t,hat,by omega,by omega⟩
         ·rcases h.only id ob hi with q|⟨j,u,q1,q2,q3⟩
          ·exact .inl q
          ·exact .inr ⟨j,u,q1,by omega,q3⟩
        ·show yZ env' d=_;rw [e3]
         by_cases e:i=j
         ·subst e;rw [h0] at hoj;cases hoj;rw [hd];simp only [upd,if_true];rw [hnx]
         ·rw [zLA fun d' hd' e'=>e (by
           subst e';obtain ⟨_,o',ho',ha'⟩:=hj;rw [hoj] at ho';cases ho'
           exact hF.inj i j _ _ _ _ _ (by omega) (by omega) h0 hoj ha ha' hd' hd)]
          exact h.slots j u oj d hj (by omega) hoj hd
       obtain ⟨gf,env0',st',a',w',r0,r1,r2,r3⟩:=zCX R hF hDn hD hall l1 l2 (i+1) (by omega) hl' hPF hk;refine ⟨gf,env0',st',a',w',fun x hx=>r0 x (by omega),⟨.s (.ptr nx1 0 0),?_,?_⟩,r2,r3⟩
       ·unfold Yields;rw [ha];exact ⟨hg,by rw [hti];rfl,by rw [hnx]⟩
       ·show zAl (Yields T ops hp nx gf) _ (i+1) l1 (upd (yZ env1) o.dst _);rw [<- e3];exact r1
   | none =>
    have hsucc:=zJ9 _ _ _ h0l;rw [ha] at hsucc;simp only [zcB] at hsucc;cases hin:zAt o.op with
    | some tdx =>
     obtain ⟨t,d,x⟩:=tdx;have hop:=zIP hin
     have hg:o.guard=none:=by
      unfold zUW at hpre;rw [hop] at hpre;simp only [j0,jC,zAt,Bool.false_or,Option.isSome_none,Option.isSome_some,Bool.true_and] at hpre;exact Option.isNone_iff_eq_none.1 hpre
     obtain ⟨j,oj,hji,hoj,haj,hdj⟩:=hF.has i o t d x (by omega) h0 hin;have hat:zAx ops k j t:=⟨by omega,oj,hoj,haj⟩;have hof:initOf ops k j=some i:=hF.initOf i j o oj t t d x (by omega) (by omega) h0 hoj hin haj hdj;have hsl:yZ env1 d= .s (.ptr (nx+zBO ops.toList j) 0 0):=h.slots j t oj d hat hji hoj hdj;obtain ⟨ti,hti,hhp⟩:=h.done j t hat hji;rw [zEh fun i' hi'=>by rw [hof] at hi';cases hi';rw [<- zbV,zGv];omega] at hhp
     have hhp:hget hp1 (nx+zBO ops.toList j)=some (.flat t ti.zero):=hhp;simp only [zcA,zAN,hg] at hk
     have hastep:zBr T true o ⟨env1,hp1,nx1⟩=zBz T t (.s (.ptr (nx+zBO ops.toList j) 0 0)) (y7 env1 x) ⟨env1,hp1,nx1⟩ o.dst:=by
      simp only [zBr,jY,jO,hop,zCG,zJg,zGd];rw [show y7 env1 (.tmp d)=_ from hsl]
     simp only [aop] at hk;unfold zSI at hk;rw [hastep] at hk;simp only [St.force_eq] at hk;cases hes:zBz T t (.s (.ptr (nx+zBO ops.toList j) 0 0)) (y7 env1 x) ⟨env1,hp1,nx1⟩ o.dst with
     | none=>rw [hes] at hk;exact hk.elim
     | some res =>
       obtain ⟨m,hfl,c1,c2,c3,hres⟩:=zIM hes hhp;rw [hes,hres] at hk;simp only at hk;obtain ⟨env',e2,e3⟩:=zAK env1 (zA6 hp1 (nx+zBO ops.toList j) (.flat t (zAZ ti.zero 0 m))) nx1 o.dst .undef;rw [e2] at hk;have hset_get: ∀ id,hget (zA6 hp1 (nx+zBO ops.toList j) (.flat t (zAZ ti.zero 0 m))) id=if id=nx+zBO ops.toList j then some (.flat t (zAZ ti.zero 0 m)) else hget hp1 id:=fun id=>zAR ⟨_,hhp⟩;obtain ⟨env0',e4,e5⟩:=zAK env0 hp nx o.dst .undef
       have hga:=zBG h.ga ho;rw [e4] at hga
       let gf1:Nat->List AS:=fun y=>if y=i then m else gf0 y
       have hg1:gf1 i=m:=if_pos rfl;have hg2: ∀ y,y≠i->gf1 y=gf0 y:=fun y hy=>if_neg hy
       have hPF:PF B N T ops k D hp nx gf1 (i+1) env0' ⟨env',zA6 hp1 (nx+zBO ops.toList j) (.flat t (zAZ ti.zero 0 m)),nx1⟩ (a.put o.dst undef) w:=by
        refine ⟨hga,fun y hy=> ?_,by rw [hsucc];exact h.next,fun id hid=> ?_,fun j' u hj' hji'=> ?_,fun id ob hi=> ?_,fun j' u oj' d' hj' hji' hoj' hd'=> ?_⟩
        ·show yZ env' y=_;rw [e3,e5];cases hd:o.dst with
         | none=>exact h.same y hy
         | some d =>
           simp only [upd];split
           ·rfl
           ·exact h.same y hy
        ·show hget (zA6 hp1 _ _) id=_;rw [hset_get,if_neg (by omega)];exact h.ext id hid
        ·show ∃ ti',_/\hget (zA6 hp1 _ _) _=_;rw [hset_get]
         have hne:j'≠i:=fun e=>by
          subst e;obtain ⟨_,o',ho',ha'⟩:=hj';rw [h0] at ho';cases ho';rw [ha] at ha';cases ha'
         by_cases e:j'=j
         ·subst e;obtain ⟨_,o',ho',ha'⟩:=hj';rw [hoj] at ho';cases ho';rw [haj] at ha';cases ha';exact ⟨ti,hti,by rw [if_pos rfl,zNU (was:=fun x=>Nat.blt x (i+1)) hof (zGv.2 (Nat.lt_succ_self i)),hg1]⟩
         ·rw [if_neg (fun e'=>e (zEd hj' hat (by omega)))];obtain ⟨ti',q1,q2⟩:=h.done j' u hj' (by omega);refine ⟨ti',q1,?_⟩;rw [show hget hp1 (nx+zBO ops.toList j')=_ from q2,zBc (gf':=gf1) (was':=fun x=>Nat.blt x (i+1)) fun i' hi'=> ?_]
          have hii:i'≠i:=fun e=>by
           subst e;obtain ⟨_,o',oj',t',d',x',r1,r2,r3,r4⟩:=zAM hi';obtain ⟨hjk',o2,ho2,ha2⟩:=hj';rw [h0] at r1;cases r1;rw [hin] at r3;cases r3;rw [ho2] at r2;cases r2;exact absurd (hF.inj j' j _ _ _ _ _ hjk' (by omega) ho2 hoj ha2 haj r4 hdj) (by assumption)
          exact ⟨zM6 hii,fun _=>(hg2 i' hii).symm⟩
        ·have hi:hget (zA6 hp1 (nx+zBO ops.toList j) (.flat t (zAZ ti.zero 0 m))) id=some ob:=hi;rw [hset_get] at hi;split at hi
         ·rename_i e;exact .inr ⟨j,t,hat,by omega,e⟩
         ·rcases h.only id ob hi with q|⟨j',u,q1,q2,q3⟩
          ·exact .inl q
          ·exact .inr ⟨j',u,q1,by omega,q3⟩
        ·have hne:j'≠i:=fun e=>by
          subst e;obtain ⟨_,o',ho',ha'⟩:=hj';rw [h0] at ho';cases ho';rw [ha] at ha';cases ha'
         show yZ env' d'=_;obtain ⟨hjk',o',ho',ha'⟩:=hj';rw [hoj'] at ho';cases ho';rw [e3,zLA fun d2 hd2 e=>hF.dst i o d' j' oj' u (by omega) hjk' h0 hoj' ha ha' hd' (by rw [hd2,e])];exact h.slots j' u oj' d' ⟨hjk',oj',hoj',ha'⟩ (by omega) hoj' hd'
       obtain ⟨gf,env0'',st',a',w',r0,r1,r2,r3⟩:=zCX R hF hDn hD hall l1 l2 (i+1) (by omega) hl' hPF hk;refine ⟨gf,env0'',st',a',w',fun y hy=>(r0 y (by omega)).trans (hg2 y (by omega)),⟨.undef,?_,?_⟩,r2,r3⟩
       ·have hgi:gf i=m:=(r0 i (by omega)).trans hg1;unfold Yields;rw [ha,hin];exact ⟨hg,rfl,j,oj,ti,hji,hoj,haj,hdj,hsl,hti,by rw [y4,hgi];exact hfl,by rw [hgi];exact c1,by rw [hgi];exact c2,by rw [hgi];exact c3⟩
       ·show zAl (Yields T ops hp nx gf) _ (i+1) l1 (upd (yZ env1) o.dst _);rw [<- e3];exact r1
    | none =>
     have hc:j0 o.op=true:=by
      unfold zUW at hpre;rw [ha,hin] at hpre;simpa using hpre
     have hlook:=hlook hc
     have nini: ∀ {i' j:Nat},initOf ops k j=some i'->i'≠i:=fun {i' j} hj e=>by
      obtain ⟨_,o',_,_,_,_,ho',_,hin',_⟩:=zAM hj;rw [e,h0] at ho';cases ho';rw [hin] at hin';cases hin'
     -- the same frame, as far as this operation looks
     have hev: ∀ x∈o.op.operands,y7 env1 x=y7 env0 x:=fun x hx=>by
      cases x with
      | tmp t=>exact h.same t (hlook t (by
         simp only [Oper.looksAt,yD,List.mem_filterMap]
         exact .inl ⟨.tmp t,by simpa using hx,rfl⟩))
      | _=>rfl
     have hlow: ∀ x∈o.op.operands,(y7 env1 x).low nx:=fun x hx=>by
      rw [hev x hx];obtain ⟨I,M,hg⟩:=h.ga.gg
      have hx':zDy x=true:=by
       simp only [yT,zC,zJ] at ho;exact ho.2 x (by simpa using hx)
      have:=(jP hg hx').low;rw [hg.len] at this;exact this
     have hcong: ∀ hp2,z7j nx hp hp2->jO T o.op (y7 env1) hp2=jO T o.op (y7 env0) hp:=fun hp2 hh=>by
      rw [zTX hlow hh (let ⟨_,_,hg⟩:=h.ga.gg;hg.flatOk),qF hev]
     have hPF: ∀ {v:AV} {a':Act} {w':World} {env1':Env},yZ env1'=yZ env1->GA B N ((⟨env0,hp,nx⟩:St).put o.dst v) a' w'->∃ env0' env',(⟨env1',hp1,nx1⟩:St).put o.dst v=⟨env',hp1,nx1⟩/\yZ env'=upd (yZ env1) o.dst v/\PF B N T ops k D hp nx gf0 (i+1) env0' ⟨env',hp1,nx1⟩ a' w':=by
      intro v a' w' env1' hE hga;obtain ⟨env0',e1,e2⟩:=zAK env0 hp nx o.dst v;obtain ⟨env',e3,e4⟩:=zAK env1' hp1 nx1 o.dst v;rw [e1] at hga;refine ⟨env0',env',e3,by rw [e4,hE],hga,fun x hx=> ?_,by rw [hsucc];exact h.next,h.ext,fun j u hj hji=> ?_,fun id ob hi=> ?_,fun j u oj d hj hji hoj hd=> ?_⟩
      ·show yZ env' x=_;rw [e4,e2,hE];cases hd:o.dst with
       | none=>exact h.same x hx
       | some d =>
         simp only [upd];split
         ·rfl
         ·exact h.same x hx
      ·have hlt:j<i:=by
        rcases Nat.lt_or_ge j i with q|q
        ·exact q
        ·obtain rfl:j=i:=by omega
         obtain ⟨_,o',ho',ha'⟩:=hj;rw [h0] at ho';cases ho';rw [ha] at ha';cases ha'
       obtain ⟨ti',q1,q2⟩:=h.done j u hj hlt;refine ⟨ti',q1,?_⟩;rw [show hget hp1 (nx+zBO ops.toList j)=_ from q2,zBc (gf':=gf0) (was':=fun x=>Nat.blt x (i+1)) fun i' hi'=>⟨zM6 (nini hi'),fun _=>rfl⟩]
      ·rcases h.only id ob hi with q|⟨j,u,q1,q2,q3⟩
       ·exact .inl q
       ·exact .inr ⟨j,u,q1,by omega,q3⟩
      ·have hlt:j<i:=by
        rcases Nat.lt_or_ge j i with q|q
        ·exact q
        ·obtain rfl:j=i:=by omega
         obtain ⟨_,o',ho',ha'⟩:=hj;rw [h0] at ho';cases ho';rw [ha] at ha';cases ha'
       show yZ env' d=_;obtain ⟨hjk',o',ho',ha'⟩:=hj;rw [hoj] at ho';cases ho';rw [e4,hE,zLA fun d2 hd2 e=>hF.dst i o d j oj u (by omega) hjk' h0 hoj ha ha' hd (by rw [hd2,e])];exact h.slots j u oj d ⟨hjk',oj,hoj,ha'⟩ hlt hoj hd
     -- one step
     have run: ∀ {env1':Env},yZ env1'=yZ env1->qD ops (yZ env1) o=some true->aop T true o ⟨env1',hp1,nx1⟩ (fun st'=>zAN T true ops (l1++l2) st' K)->
      ∃ gf env0' st' a' w',(∀ x,x<i->gf x=gf0 x)/\zAl (Yields T ops hp nx gf) (yZ st'.env) i (o::l1) (yZ env1)/\zAN T true ops l2 st' K/\PF B N T ops k D hp nx gf k env0' st' a' w':=by
      intro env1' hE hw hk;have hEv:y7 env1'=y7 env1:=by rw [<- y4,<- y4,hE]
      have core: ∀ {p q:Option Prop} {st':St},zBr T true o ⟨env1',hp1,nx1⟩=some (p,q,st')->Opt p/\(Opt q->zAN T true ops (l1++l2) st' K->
       ∃ gf env0' st' a' w',(∀ x,x<i->gf x=gf0 x)/\zAl (Yields T ops hp nx gf) (yZ st'.env) i (o::l1) (yZ env1)/\zAN T true ops l2 st' K/\PF B N T ops k D hp nx gf k env0' st' a' w'):=by
       intro p q st' hs;unfold zBr at hs;simp only at hs;split at hs
       ·rename_i res hcs;cases Option.some.inj hs;unfold jY at hcs;split at hcs
        ·rename_i p' q' v hv;cases hcs;simp only [hEv] at hv;have hv0:=hv;rw [hcong hp1 h.ext] at hv0;obtain ⟨h1,h2⟩:=zBw (r:=none) (n:=0) R h.ga ho hv0;refine ⟨h1,fun hq hk'=> ?_⟩;obtain ⟨a',w',hga'⟩:=zD2 (h2 hq (K:=fun a' w'=>GA B N ((⟨env0,hp,nx⟩:St).put o.dst v) a' w') (Q:=fun _ _ _=>False) fun _ _ h=>h);obtain ⟨env0',env',e1,e2,hpf⟩:=hPF hE hga';rw [e1] at hk';obtain ⟨gf,env0',st',a2,w2,r0,r1,r2,r3⟩:=zCX R hF hDn hD hall l1 l2 (i+1) (by omega) hl' hpf hk'
         refine ⟨gf,env0',st',a2,w2,fun x hx=>r0 x (by omega),⟨v,?_,?_⟩,r2,r3⟩
         ·unfold Yields;rw [ha,hin];refine .inl ⟨hw,p,q,fun hp2 hh=> ?_,hq⟩;rw [y4,hcong hp2 hh];exact hv0
         ·rw [e2] at r1;exact r1
        ·cases hcs
       ·rename_i hcs;rw [zFo hc hcs] at hs;cases hs
      simp only [aop] at hk;unfold zSI at hk;simp only [St.force_eq] at hk;split at hk
      ·rename_i st' hs;exact (core hs).2 trivial hk
      ·rename_i p st' hs;obtain ⟨h1,h2⟩:=core hs;exact h2 trivial (hk.out h1)
      ·rename_i q st' hs;obtain ⟨h1,h2⟩:=core hs;obtain ⟨k1,k2⟩:=hk.out;exact h2 k1 k2
      ·rename_i p q st' hs;obtain ⟨h1,h2⟩:=core hs;obtain ⟨k1,k2⟩:=(hk.out h1).out;exact h2 k1 k2
      ·exact hk.elim
     have skip: ∀ {env1':Env},yZ env1'=yZ env1->qD ops (yZ env1) o=some false->zAN T true ops (l1++l2) ((⟨env1',hp1,nx1⟩:St).put o.dst .undef) K->
      ∃ gf env0' st' a' w',(∀ x,x<i->gf x=gf0 x)/\zAl (Yields T ops hp nx gf) (yZ st'.env) i (o::l1) (yZ env1)/\zAN T true ops l2 st' K/\PF B N T ops k D hp nx gf k env0' st' a' w':=by
      intro env1' hE hw hk;obtain ⟨env0',env',e1,e2,hpf⟩:=hPF hE (zBG h.ga ho);rw [e1] at hk;obtain ⟨gf,env0',st',a2,w2,r0,r1,r2,r3⟩:=zCX R hF hDn hD hall l1 l2 (i+1) (by omega) hl' hpf hk;refine ⟨gf,env0',st',a2,w2,fun x hx=>r0 x (by omega),⟨.undef,?_,?_⟩,r2,r3⟩
      ·unfold Yields;rw [ha,hin];exact .inr ⟨hw,rfl⟩
      ·rw [e2] at r1;exact r1
     simp only [zcA,zAN,St.force_eq] at hk;cases hg:o.guard with
     | none =>
       simp only [hg] at hk;exact run rfl (by simp [qD,hg]) hk
     | some jw =>
       obtain ⟨j,want⟩:=jw;simp only [hg] at hk;split at hk
       ·rename_i b hb;obtain ⟨d,hd,hd2⟩:=j8 (ops:=ops) (env:=env1) (j:=j) (by rw [hb];simp);rw [hd2] at hb;rw [hd] at hk;have hw:qD ops (yZ env1) o=some (b==want):=by simp [qD,hg,hd,hb]
        have hE: ∀ b',yZ env1 d= .s (.bool b')->yZ ((d,.s (.bool b'))::env1)=yZ env1:=fun b' hb'=>by
         funext x;rw [qR];split
         ·rename_i e;subst e;exact hb'.symm
         ·rfl
        cases b with
        | true =>
          cases want with
          | true=>exact run (hE _ hb) hw hk
          | false=>exact skip (hE _ hb) hw hk
        | false =>
          cases want with
          | true=>exact skip (hE _ hb) hw hk
          | false=>exact run (hE _ hb) hw hk
       ·rename_i vs hb;obtain ⟨d,hd,hd2⟩:=j8 (ops:=ops) (env:=env1) (j:=j) (by rw [hb];simp);rw [hd2] at hb;exact skip rfl (by simp [qD,hg,hd,hb]) hk
       ·exact hk.elim
theorem zCH {l m:Array Bool} (hs:l.size=m.size) (h: ∀ i,l.getD i true=m.getD i true):l=m:=by
 apply Array.ext hs;intro i h1 h2;have:=h i;simpa [zL,h1,h2] using this
theorem fold_size (k:Nat) (l:Array Bool):((List.range k).foldl (fun l i=>l.setIfInBounds i true) l).size=l.size:=by
 induction k with
 | zero=>rfl
 | succ k ih=>rw [List.range_succ,zbm];simpa using ih
theorem zBB (k:Nat) (l:Array Bool) (i:Nat):((List.range k).foldl (fun l i=>l.setIfInBounds i true) l).getD i true=if i<k then true else l.getD i true:=by
 induction k with
 | zero=>simp
 | succ k ih =>
   rw [List.range_succ,zbm];simp only [List.foldl_cons,List.foldl_nil]
   by_cases hi:k=i
   ·subst hi;rw [if_pos (Nat.lt_succ_self k)];rcases Nat.lt_or_ge k l.size with h'|h'
    ·simp [zL,zbb,fold_size,h']
    ·have:(((List.range k).foldl (fun l i=>l.setIfInBounds i true) l).setIfInBounds k true).size<=k:=by simpa [fold_size] using h'
     simp [zL,zbZ this]
   ·rw [getD_set_ne true hi,ih]
    by_cases h1:i<k
    ·rw [if_pos h1,if_pos (by omega)]
    ·rw [if_neg h1,if_neg (by omega)]
theorem zEA (n:Nat):Dn ops (Array.replicate n false):=fun j i hj _=>by
 rw [zL,zbX] at hj;split at hj<;>simp at hj
theorem zET (R:jM P T) {id:Nat} (hall: ∀ o∈ops.toList,yT N o=true) {k:Nat} (hB:zSM ops k=true) {K:St->Prop} (h:GA B N st a w) (hk:zAN T true ops ops.toList st K)
 (hQ: ∀ st' a' w',K st'->GA B N st' a' w'->Q .normal a' w'):(Code.region id ops true).wpIn (FR r) n P Q a w:=by
 have hall2: ∀ (i:Nat) (o:Oper),ops[i]? =some o->yT N o=true:=fun i o e=>hall o (by
  obtain ⟨hi,e⟩:=zW.1 e;subst e;simp)
 obtain ⟨env,hp,nx⟩:=st;simp only [zSM,zC] at hB;obtain ⟨⟨⟨hBk,hBp⟩,hBf⟩,⟨hB0,hB1⟩,hB2⟩:=hB;have hF:z1W ops k:=z0h hBf;have hkle:k<=ops.size:=zU hBk;have hsplit:ops.toList.take k++ops.toList.drop k=ops.toList:=jE _ _;have hlen1:(ops.toList.take k).length=k:=by simp;omega
 have hlen2:(ops.toList.drop k).length=ops.size - k:=by simp
 have hmem: ∀ (j:Nat) (o:Oper),j<k->ops[j]? =some o->o∈ops.toList.take k:=fun j o hj ho=>by
  rw [zbW];exact ⟨j,by rw [zbC,if_pos hj];simpa using ho⟩
 rw [<- hsplit] at hk;have hbd:Below B.w.heap.size w {w with drawn:=w.drawn+1} :=⟨⟨rfl,rfl,rfl,zI _,fun _ _=>rfl⟩,Nat.le_succ _⟩
 have hpf:PF B N T ops k (jZ (ops.toList.take k)) hp nx (fun _=>[]) 0 env ⟨env,hp,nx⟩ a w:=⟨h,fun _ _=>rfl,by cases ops.toList<;>simp [zBO],fun _ _=>rfl,fun j t _ hj=>absurd hj (by omega),fun id ob hi=>by
  obtain ⟨I,M,hg⟩:=h.gg
  exact .inl (hg.id_lt hi),fun j t oj d _ hj=>absurd hj (by omega)⟩
 obtain ⟨gf,env0',st',a',w',_,hlex,htl,hpf'⟩:=zCX (k:=k) R hF (fun j o d hj ho ha hd=>by
  simp only [zMJ,zC] at hBf
  exact zGx hBf.1.2 o (hmem j o hj ho) ha d hd) (D:=jZ (ops.toList.take k)) (fun j o t d hj ho ha hd=>zJn ha hd (hmem j o hj ho))
  (fun j o hj ho=>⟨hall2 j o ho,zJ.1 hBp o (hmem j o hj ho),zSu hB0 o (hmem j o hj ho)⟩) (ops.toList.take k) (ops.toList.drop k) 0 (by rw [hlen1];omega) (fun j hj=>by
    rw [hlen1] at hj
    rw [zD,zbC,if_pos hj];simp) hpf hk
 refine wpIn_region_any R.mixed ?_
 have hany:=zB7 (fun _ _ _ _ _ _ h=>Yields.of_apart h) (k:=k) (ops.toList.take k) 0 (Array.replicate ops.size false) (yZ env) (by rw [hlen1];omega) (fun j hj=>by
  rw [hlen1] at hj
  rw [zD,zbC,if_pos hj];simp) (fun j hj=>by omega) (by rw [hlen1];exact hB1) (zEA _) hlex
 rw [hlen1] at hany
 -- the free places
 obtain ⟨I,M,hg⟩:=(zEi h hbd).gg;obtain ⟨β',hg',hfree⟩:=hg.frees (zBO ops.toList k)
 have hrf:RF B N T ops k hp nx gf (Array.replicate ops.size false) (yZ env) a {w with drawn:=w.drawn+1} env hp β':=by
  refine ⟨rfl,⟨h.defers,h.size,I,hg'⟩,fun _ _=>rfl,fun i t hi hl=> ?_,fun i t hi hl=>⟨?_,hfree _ ?_⟩,fun id ob hi=> .inl (hg.id_lt hi),fun i j t hi hj hl=> ?_⟩
  ·obtain ⟨hik,_⟩:=hi;rw [zL,zbX,if_pos (by omega)] at hl;cases hl
  ·cases e:hget hp (nx+zBO ops.toList i) with
   | none=>rfl
   | some ob=>exact absurd (hg.id_lt e) (by simp)
  ·obtain ⟨hik,o,ho,ha⟩:=hi;exact zPz ha ops.toList i k (by simpa using ho) hik
  ·obtain ⟨hik,_⟩:=zAM hi;rw [zL,zbX,if_pos (by omega)] at hl;cases hl
 have hfin :=zIR (Q:=Q) (r:=r) (n:=n) (fuel:=ops.size - k) R hall2 (nx:=nx) (N:=N) (B:=B) (gf:=gf) hF ((List.range k).foldl (fun l i=>l.setIfInBounds i true) (Array.replicate ops.size false))
  (fun a1 w1 listed env1 hp1 β1 hlis hl hs hr=>by
    have:listed=_:=zCH hs hl;subst this;rw [<- hlen2];obtain ⟨env2,hp2,nx2⟩:=st';have hnx2:nx2=nx+zBO ops.toList k:=hpf'.next
    subst hnx2;obtain ⟨σ1,hg1⟩:=hr.gb.gg
    have hga1 :GA B N ⟨env2,hp2,nx+zBO ops.toList k⟩ a1 w1:=⟨hr.gb.defers,hr.gb.size,σ1,β1,hg1.congr hr.look fun id=>by
     by_cases hlt:id<nx
     ·rw [hr.ext id hlt];exact (hpf'.ext id hlt).symm
     ·by_cases hex: ∃ i t,zAx ops k i t/\id=nx+zBO ops.toList i
      ·obtain ⟨i,t,hi,rfl⟩:=hex;obtain ⟨ti,q1,q2⟩:=hr.done i t hi (hlis i hi.1);obtain ⟨ti',q3,q4⟩:=hpf'.done i t hi hi.1;rw [q1] at q3;cases q3;rw [q2,zBc (gf':=gf) (was':=fun x=>Nat.blt x k) fun i' hi'=> ?_]
       ·exact q4.symm
       ·obtain ⟨hik,_⟩:=zAM hi';exact ⟨by rw [hlis i' hik];exact (zGv.2 hik).symm,fun _=>rfl⟩
      ·have e1:hget hp1 id=none:=by
        cases e:hget hp1 id with
        | none=>rfl
        | some ob=>rcases hr.only id ob e with q|q;exact absurd q hlt;exact absurd q hex
       have e2:hget hp2 id=none:=by
        cases e:hget hp2 id with
        | none=>rfl
        | some ob =>
          rcases hpf'.only id ob e with q|⟨i,t,q1,_,q3⟩
          ·exact absurd q hlt
          ·exact absurd ⟨i,t,q1,q3⟩ hex
       rw [e1,e2]⟩
    exact zC6 R hall2 (ops.toList.drop k) k _ (fun j=>by simp) (by rw [hlen2];exact hB2) hga1 htl hQ)
  k (Array.replicate ops.size false) (yZ env) a {w with drawn:=w.drawn+1} env hp β' hany (fun i hi=>by rw [zBB,if_neg (by omega)]) (fun i hi=>by rw [zBB,if_pos hi]) (by rw [fold_size]) hrf
 rw [show k+(ops.size - k)=ops.size by omega] at hfin;exact hfin
theorem zGH (R:jM P T) {id:Nat} (hall: ∀ o∈ops.toList,yT N o=true) {k:Nat} (hB:zRV ops k=true) {K:St->Prop} (h:GA B N st a w) (hk:zAN T true ops ops.toList st K\/zIl T ops k ops.toList st K)
 (hQ: ∀ st' a' w',K st'->GA B N st' a' w'->Q .normal a' w'):(Code.region id ops true).wpIn (FR r) n P Q a w:=by
 have hall2: ∀ (i:Nat) (o:Oper),ops[i]? =some o->yT N o=true:=fun i o e=>hall o (by
  obtain ⟨hi,e⟩:=zW.1 e;subst e;simp)
 simp only [zRV,zC] at hB;obtain ⟨hBk,hBs,hBn,hBt⟩:=hB;have hO:=z61 hBs;have hkle:k<=ops.size:=zU hBk;have hsplit:ops.toList.take k++ops.toList.drop k=ops.toList:=jE _ _;have hlen1:(ops.toList.take k).length=k:=by simp;omega
 have hlen2:(ops.toList.drop k).length=ops.size - k:=by simp
 rw [<- hsplit] at hk;have hbd:Below B.w.heap.size w {w with drawn:=w.drawn+1} :=⟨⟨rfl,rfl,rfl,zI _,fun _ _=>rfl⟩,Nat.le_succ _⟩
 have hget: ∀ (i:Nat) (o:Oper),(ops.toList.take k)[i]? =some o->i<k/\ops[i]? =some o:=fun i o e=>by
  have hi:=(zK.1 e).1;rw [hlen1] at hi;rw [zbC,if_pos hi] at e;exact ⟨hi,by simpa using e⟩
 have hfr: ∀ o∈ops.toList.take k,yT N o=true/\o.guard=none/\(j0 o.op|| z0E o.op)=true:=fun o ho=>by
  obtain ⟨i,hi⟩:=zbW.1 ho;obtain ⟨hik,hio⟩:=hget i o hi;obtain ⟨o',d,ho',hg,_,hc,_⟩:=hO.get i hik;rw [hio] at ho';cases ho';exact ⟨hall2 i o hio,hg,hc⟩
 obtain ⟨S,s0,s1,s2,s3⟩: ∃ S:Nat->St,S 0=st/\(∀ i o,(ops.toList.take k)[i]? =some o->zFY T o (S i) (S (i+1)))/\(∀ i,i<=(ops.toList.take k).length->∃ a w,GA B N (S i) a w)/\zAN T true ops (ops.toList.drop k) (S (ops.toList.take k).length) K:=by
  rcases hk with hk|hk
  ·exact zNB (N:=N) (B:=B) R (ops.toList.drop k) (ops.toList.take k) hfr h hk
  ·have e:zIl T ops k (ops.toList.take k++ops.toList.drop k) st K=zIl T ops (ops.toList.take k).length (ops.toList.take k++ops.toList.drop k) st K:=by rw [hlen1]
   rw [e] at hk;exact zKM (N:=N) (B:=B) R (ops.toList.drop k) (ops.toList.take k) hfr h hk
 rw [hlen1] at s2 s3;have hS:Run T B N ops k S:=⟨fun i o hi ho=>s1 i o (by rw [zbC,if_pos hi];simpa using ho),s2⟩;refine wpIn_region_any R.mixed ?_;obtain ⟨I,M,hg⟩:=(zEi h hbd).gg;have hmono:=(hS.keep' hO (i:=0) (j:=k) (by omega) (zI _)).1;rw [s0] at hmono;obtain ⟨β',hg',hfree⟩:=hg.frees ((S k).next - st.next);have hnx:st.next+((S k).next - st.next)=(S k).next:=by omega
 rw [hnx] at hg'
 have mkAbove: ∀ i,MkI S k i->st.next<=(S i).next/\(S i).next<(S k).next:=fun i hi=>by
  have:=(hS.keep' hO (i:=0) (j:=i) (by omega) (by have:=hi.1;omega)).1;rw [s0] at this;exact ⟨this,hS.lt hO hi hi.1 (zI _)⟩
 have hrep: ∀ i,i<ops.size->(Array.replicate ops.size false).getD i true=false:=fun i hi=>by
  rw [zL,zbX,if_pos hi];rfl
 have hrd:RD B N ops k S (Array.replicate ops.size false) a {w with drawn:=w.drawn+1} st.env st.hp β':=by
  refine ⟨⟨h.defers,h.size,I,hg'⟩,fun i o d hi ho hd hl=> ?_,fun t _=>by rw [s0],fun id _=>by rw [s0],fun i hi hl=> ?_,fun i hi _=> ?_,fun id hid=> ?_,fun i hi _=> ?_⟩
  ·rw [hrep i (by omega)] at hl;cases hl
  ·rw [hrep i (by have:=hi.1;omega)] at hl;cases hl
  ·obtain ⟨h1,h2⟩:=mkAbove i hi;have:=hfree ((S i).next - st.next) (by omega);rwa [show st.next+((S i).next - st.next)=(S i).next by omega] at this
  ·cases e:Vm.hget st.hp id with
   | none=>rfl
   | some ob =>
     have hlt:id<st.next:=hg.id_lt e
     exact absurd (by rw [(hS.keep' hO (i:=0) (j:=k) (by omega) (zI _)).2 id (by rw [s0];exact hlt),s0];exact e) (hid ob)
  ·obtain ⟨h1,h2⟩:=mkAbove i hi;cases e:Vm.hget st.hp (S i).next with
   | none=>rfl
   | some ob=>have:(S i).next<st.next:=hg.id_lt e;omega
 have hfin :=zUV (Q:=Q) (r:=r) (n:=n) (fuel:=ops.size - k) R hO hS hkle (fun j hj hjs=>by
  have:=zJ.1 hBn j (zV.2 hjs);rw [zbA] at this;rcases this with h1|h1
  ·exact absurd (zCj h1) (by omega)
  ·exact h1) hall2 ((List.range k).foldl (fun l i=>l.setIfInBounds i true) (Array.replicate ops.size false))
  (fun a1 w1 listed env1 hp1 β1 hlis hl hs hr=>by
    have:listed=_:=zCH hs hl;subst this;rw [<- hlen2];obtain ⟨σ1,hg1⟩:=hr.gb.gg
    have hga1:GA B N (S k) a1 w1:=⟨hr.gb.defers,hr.gb.size,σ1,β1,hg1.congr (env':=(S k).env) (hp':=(S k).hp) (by
     funext t
     by_cases hdef: ∃ i o,i<k/\ops[i]? =some o/\o.dst=some t
     ·obtain ⟨i,o,hi,ho,hd⟩:=hdef;exact hr.done i o t hi ho hd (hlis i hi)
     ·rw [hr.was t (fun i o hi ho hd=>absurd ⟨i,o,hi,ho,hd⟩ hdef)]
      exact (hS.env' hO (i:=0) (j:=k) (by omega) (zI _) (fun m om _ h2 hom e=>hdef ⟨m,om,h2,hom,e⟩)).symm) fun id=>by
     by_cases hlt:id<(S k).next
     ·rcases hS.whose hO k (zI _) id hlt with h|⟨i,hi,hmi,rfl⟩
      ·rw [hr.old id h];exact ((hS.keep' hO (i:=0) (j:=k) (by omega) (zI _)).2 id h).symm
      ·exact hr.made i hmi (hlis i hi)
     ·obtain ⟨ak,wk,hk'⟩:=hS.real k (zI _);obtain ⟨_,_,hgk⟩:=hk'.gg;have hn: ∀ ob,Vm.hget (S k).hp id≠some ob:=fun ob e=>hlt (hgk.id_lt e);rw [hr.none id hn];cases e:Vm.hget (S k).hp id with
      | none=>rfl
      | some ob=>exact absurd e (hn ob)⟩
    exact zC6 R hall2 (ops.toList.drop k) k _ (fun j=>by simp) (by rw [hlen2];exact hBt) hga1 s3 hQ)
  (left (Array.replicate ops.size false) k) (Array.replicate ops.size false) a {w with drawn:=w.drawn+1} st.env st.hp β' rfl (zEA _) (by simp) (fun i hi=>by rw [zBB,if_neg (by omega)]) (fun i hi=>by rw [zBB,if_pos hi]) (by rw [fold_size]) hrd
 have hleft:left (Array.replicate ops.size false) k=k:=by
  unfold left;rw [List.filter_eq_self.2 (fun i hi=>by rw [hrep i (by have:=zV.1 hi;omega)];rfl)];simp
 rw [hleft,show k+(ops.size - k)=ops.size by omega] at hfin;exact hfin
theorem zJo (R:jM P T) {id:Nat} (hall: ∀ o∈ops.toList,yT N o=true) (hB:zV4 ops=true) {K:St->Prop} (h:GA B N st a w) (hk:zAN T true ops ops.toList st K)
 (hQ: ∀ st' a' w',K st'->GA B N st' a' w'->Q .normal a' w'):(Code.region id ops true).wpIn (FR r) n P Q a w:=by
 unfold zV4 at hB;rw [zbA,zbA] at hB;rcases hB with (hB|hB)|hB
 ·exact zET R hall hB h hk hQ
 ·exact zET R hall hB h hk hQ
 ·exact zGH R hall hB h (.inl hk) hQ
theorem zaj {env:Env} {hp:jJ} {nx:Nat} (h:GA B N ⟨env,hp,nx⟩ a w):GA B N (St.ghost ⟨env,hp,nx⟩) a w:=by
 obtain ⟨I,M,hg⟩:=h.gg;refine ⟨h.defers,h.size,I,M++[none],?_⟩;exact hg.fresh (d:=none) (ob:= .row .unit 0 []) (q:=none) (a:= .undef) (v:=undef) (fun t e=>by cases e) (fun _ _=>rfl) (Below.refl _ _) (fun p e=>by cases e) ⟨zbH _,by rw [<- hg.len];simp⟩ y6.undef
theorem zgN (R:jM P T) {id:Nat} (hall: ∀ o∈ops.toList,yT N o=true) {K:St->Prop} (h:GA B N st a w) (hk:zgq T ops st K)
 (hQ: ∀ st' a' w',K st'->GA B N st' a' w'->Q .normal a' w'):(Code.region id ops true).wpIn (FR r) n P Q a w:=by
 have hall2: ∀ (i:Nat) (o:Oper),ops[i]? =some o->yT N o=true:=fun i o e=>hall o (by
  obtain ⟨hi,e⟩:=zW.1 e;subst e;simp)
 obtain ⟨env,hp,nx⟩:=st;obtain ⟨cl,hB,hk⟩:=zgh hk;unfold okG at hB;simp only [zC,zJ] at hB;obtain ⟨hBk,hBl,hBw,hBn,hBt⟩:=hB;have hkle:cl.length<=ops.size:=zU hBk;have hlt: ∀ x∈cl,x.1<cl.length:=fun x hx=>zCj (hBl x hx);obtain ⟨hnd,_,hQJ⟩:=zg4 (l0:=[]) hBw;simp only [zbq] at hQJ
 have hkind: ∀ x∈cl,∃ o,ops[x.1]? =some o/\(j0 o.op=true\/zg9 o=true):=fun x hx=>by
  obtain ⟨l1,l2,e⟩:=List.append_of_mem hx;exact (hQJ l1 x l2 e).1.kind
 have hbd:Below B.w.heap.size w {w with drawn:=w.drawn+1} :=⟨⟨rfl,rfl,rfl,zI _,fun _ _=>rfl⟩,Nat.le_succ _⟩;have hpth:=zgr R hall2 cl hkind h hk;have hlT:(ops.toList.drop cl.length).length=ops.size - cl.length:=by simp
 -- each number is among them
 have hall3: ∀ i,i<cl.length->∃ x∈cl,x.1=i:=fun i hi=>by
  apply yF;intro hno
  have h1:(i::cl.map Prod.fst).Nodup:=zbG.2 ⟨fun hm=>by
   obtain ⟨x,hx,e⟩:=yC.1 hm
   exact hno ⟨x,hx,e⟩,hnd⟩
  have h2:=List.Nodup.length_le_of_subset h1 (l₂:=List.range cl.length) fun j hj=>by
   rcases zT.1 hj with e|e
   ·rw [e];exact zV.2 hi
   ·obtain ⟨x,hx,e⟩:=yC.1 e;rw [<- e];exact zV.2 (hlt x hx)
  rw [yA,yV,zAD] at h2;omega
 refine wpIn_region_any R.mixed ?_
 have hfin:=zgm (Q:=Q) (r:=r) (n:=n) (fuel:=ops.size - cl.length) (B:=B) (N:=N) (nx:=nx) (k:=cl.length) R hall2 ((List.range cl.length).foldl (fun l i=>l.setIfInBounds i true) (Array.replicate ops.size false))
  (fun j hj hkj=>by
    have:=hBn j (zV.2 hj);rw [zbA] at this;rcases this with e|e
    ·have:=zCj e;omega
    ·exact e)
  (fun a3 w3 listed env3 hp3 hlis hl hs he hg=>by
    have:listed=_:=zCH hs fun i=>by
     by_cases hi:i<cl.length
     ·rw [hlis i hi,zBB,if_pos hi]
     ·exact hl i (by omega)
    subst this;rw [<- hlT];obtain ⟨env4,e4,k4⟩:=he
    have hga:GA B N ⟨env4,hp3,nx⟩ a3 w3:=by
     obtain ⟨I,M,hgg⟩:=hg.gg;exact ⟨hg.defers,hg.size,I,M,hgg.congr e4.symm fun _=>rfl⟩
    exact zC6 R hall2 (ops.toList.drop cl.length) cl.length _ (fun j=>by simp) (by rw [hlT];exact hBt) hga k4 hQ)
  cl.length cl (Array.replicate ops.size false) env hp a {w with drawn:=w.drawn+1} rfl hpth (fun l1 x l2 e=>(hQJ l1 x l2 e).1)
  ⟨zEA _,fun x hx=>by
    rw [zL,zbX,if_pos (by have:=hlt x hx;omega)];rfl,fun i hi hno=>by
    obtain ⟨x,hx,e⟩:=hall3 i hi
    exact absurd e (hno x hx),fun i hi=>by rw [zBB,if_neg (by omega)],hnd,hlt,by rw [fold_size],by simp,fun l1 x l2 e o ho ed hed hb=> .inl ((hQJ l1 x l2 e).2 o ho ed hed hb)⟩ (zEi h hbd)
 rw [show cl.length+(ops.size - cl.length)=ops.size by omega] at hfin;exact hfin
theorem zSw (R:jM P T) {id:Nat} {draw:Bool} (hall: ∀ o∈ops.toList,yT N o=true) (hB:draw=true->z4M ops=true) {K:St->Prop} (h:GA B N st a w) (hk:zPr T ops draw st K)
 (hQ: ∀ st' a' w',K st'->GA B N st' a' w'->Q .normal a' w'):(Code.region id ops draw).wpIn (FR r) n P Q a w:=by
 unfold zPr at hk;cases draw with
 | false=>exact zZ9 R hall h hk hQ
 | true =>
   have hB:=hB rfl;unfold z4M at hB;simp only at hk;split at hk
   ·obtain ⟨env,hp,nx⟩:=st;rw [St.force_eq] at hk;exact zgN R hall (zaj h) hk hQ
   ·rename_i h1;split at hk
    ·exact zgN R hall h hk hQ
    ·rename_i h2;split at hk
     ·split at hk
      ·exact zgN R hall h hk hQ
      ·rename_i h3;split at hk
       ·exact zgN R hall h hk hQ
       ·rename_i h4;rw [h1,h2,h3,h4] at hB;exact zJo R hall hB h hk hQ
     ·obtain ⟨k1,k2⟩:=hk.out;exact zGH R hall k1 h (.inr k2) hQ
theorem zN8 {env:Env} : ∀ {l:Env},z4m env l->∀ t,yZ l t= .junk\/yZ l t=yZ env t
 | [],_,t=> .inl rfl
 | (k,v)::r,h,t=>by
   rw [qR];split
   ·rename_i e;subst e;exact .inr h.1
   ·exact zN8 h.2 t
theorem zEr {hp:jJ} : ∀ {l:jJ},zVX hp l->∀ t ob,hget l t=some ob->hget hp t=some ob
 | [],_,t,ob,e=>by cases e
 | (k,o)::r,h,t,ob,e=>by
   rw [yL] at e;split at e
   ·rename_i e';subst e';cases e;exact h.1.symm
   ·exact zEr h.2 t ob e
theorem zEN {m:Nat} : ∀ {l:Env},zDW m l=true->∀ t,yZ l t= .junk\/(yZ l t).idsBelow m=true
 | [],_,t=> .inl rfl
 | (k,v)::r,h,t=>by
   simp only [zDW,zC] at h;rw [qR];split
   ·exact .inr h.1
   ·exact zEN h.2 t
theorem zCB {m:Nat} : ∀ {l:jJ},zGR m l=true->∀ t ob,hget l t=some ob->t<m/\(∀ u cs,ob= .flat u cs->cs.all (AS.idsBelow m)=true)/\(∀ X l,ob= .fr X l->zDW m l=true)
 | [],_,t,ob,e=>by cases e
 | (k,o)::r,h,t,ob,e=>by
   simp only [zGR,zC] at h;rw [yL] at e;split at e
   ·rename_i e';subst e';cases e;refine ⟨Nat.lt_of_succ_le (by simpa [Nat.blt] using h.1.1),fun u cs hc=> ?_,fun X l hc=> ?_⟩
    ·subst hc;exact h.1.2
    ·subst hc;exact h.1.2
   ·exact zCB h.2 t ob e
theorem zAn {M:yR} {m id:Nat} (h:id<m):(M.take m)[id]? =M[id]? :=by rw [zbC,if_pos h]
theorem y5.take {m:Nat} {x:AS} {v:Value} (hb:x.idsBelow m=true) (h:y5 I M x v):y5 I (M.take m) x v:=by
 have lt: ∀ {i:Nat},Nat.blt i m=true->i<m:=fun h=>Nat.lt_of_succ_le (by simpa [Nat.blt] using h);cases x with
 | own id s n=>simp only [y5,zAn (lt hb)] at h ⊢;exact h
 | ptr id i k=>simp only [y5,zAn (lt hb)] at h ⊢;exact h
 | pti id i k=>simp only [y5,zAn (lt hb)] at h ⊢;exact h
 | omp id=>simp only [y5,zAn (lt hb)] at h ⊢;exact h
 | arr id n=>simp only [y5,zAn (lt hb)] at h ⊢;exact h
 | _=>exact h
theorem zJC {m:Nat} : ∀ {l:List AS} {ds:List Value},l.all (AS.idsBelow m)=true->jQ (y5 I M) l ds->jQ (y5 I (M.take m)) l ds
 | [],[],_,_=>trivial
 | a::l,d::ds,h,hr=>by
   simp only [zb2,zC] at h;exact ⟨y5.take h.1 hr.1,zJC h.2 hr.2⟩
 | [],_::_,_,hr=>hr.elim
 | _::_,[],_,hr=>hr.elim
theorem y6.take {m:Nat} {x:AV} {v:Value} (hb:x.idsBelow m=true) (h:y6 I M x v):y6 I (M.take m) x v:=by
 cases x with
 | s a=>exact y5.take hb h
 | agg l=>obtain ⟨ds,e,r⟩:=h;exact ⟨ds,e,zJC hb r⟩
 | tup l=>cases hb
theorem zAf.take {m id:Nat} {ob:Ob} (hid:id<m) (hf: ∀ u cs,ob= .flat u cs->cs.all (AS.idsBelow m)=true) (hf2: ∀ X l,ob= .fr X l->zDW m l=true) (h:zAf I M w id ob):zAf I (M.take m) w id ob:=by
 cases ob with
 | row e T xs=>simp only [zAf,zAn hid] at h ⊢;exact h
 | flat T cs =>
   obtain ⟨p,h1,h2,h3,h4,h5,c,h6,h7⟩:=h;exact ⟨p,by rw [zAn hid];exact h1,h2,h3,h4,h5,c,h6,zJC (hf _ _ rfl) h7⟩
 | map k v m =>
   obtain ⟨h0,p,es,clock,h1,h2,h3⟩:=h;exact ⟨h0,p,es,clock,by rw [zAn hid];exact h1,h2,h3⟩
 | gmap k e m =>
   obtain ⟨h0,p,es,clock,h1,h2,h3,h4,h5,h6⟩:=h;exact ⟨h0,p,es,clock,by rw [zAn hid];exact h1,h2,h3,h4,h5,h6⟩
 | grow e T xss =>
   obtain ⟨h0,p,h1,h2,h3,h4,c,h5,h6,h7,h8⟩:=h;exact ⟨h0,p,by rw [zAn hid];exact h1,h2,h3,h4,c,h5,h6,h7,h8⟩
 | fr X l=>exact ⟨by rw [zAn hid];exact h.1,fun t=>by
    rcases zEN (hf2 _ _ rfl) t with e|e
    ·rw [e];trivial
    ·exact (h.2 t).take e⟩
theorem GA.weaken {s t:St} (h:GA B N s a w) (hle:zOs s t):GA B N t a w:=by
 obtain ⟨I,M,hg⟩:=h.gg;obtain ⟨h1,h2,h3⟩:=hle;simp only [zC] at h3;obtain ⟨⟨h3,h4⟩,h5⟩:=h3;have hn:t.next<=s.next:=zU h5
 refine ⟨h.defers,h.size,I,M.take t.next,⟨hg.mem.ag,fun id ob hi=> ?_⟩,fun k=> ?_,by rw [qZ,hg.len];omega,fun id ob p hi hp=> ?_,hg.bel,hg.grew⟩
 ·obtain ⟨q1,q2,q3⟩:=zCB h4 _ _ hi;exact (hg.mem.ob _ _ (zEr h2 _ _ hi)).take q1 q2 q3
 ·rcases zN8 h1 k with e|e
  ·rw [e];trivial
  ·rcases zEN h3 k with e'|e'
   ·rw [e'];trivial
   ·refine y6.take e' ?_;rw [e];exact hg.env k
 ·have q1:=(zCB h4 _ _ hi).1;rw [zAn q1] at hp;obtain ⟨s1,s2,s3⟩:=hg.sep _ _ _ (zEr h2 _ _ hi) hp;refine ⟨s1,s2,fun id' ob' p' hne hi' hp'=> ?_⟩;rw [zAn (zCB h4 _ _ hi').1] at hp';exact s3 _ _ _ hne (zEr h2 _ _ hi') hp'
theorem zJ3 (h:GA B N st a w) {c:Operand} (hc:zDy c=true) {t:Bool} (e:y7 st.env c= .s (.bool t)):a.eval c= .bool t:=by
 obtain ⟨I,M,hg⟩:=h.gg;have:=jP hg hc;rw [e] at this;exact this
theorem zKC: ∀ {cs:List AS} {k i:Nat},zNG cs k=some i->k<=i/\cs[i - k]? =some (.val (.slice none 0 0))
 | [],k,i,h=>by cases h
 | c ::r,k,i,h=>by
   have step:zNG r (k+1)=some i->k<=i/\(c::r)[i - k]? =some (.val (.slice none 0 0)):=fun h=>by
    obtain ⟨h1,h2⟩:=zKC h;refine ⟨by omega,?_⟩;rw [show i - k=(i - (k+1))+1 by omega,zbn];exact h2
   unfold zNG at h;split at h
   ·cases h
   ·rename_i e;cases e;cases h;exact ⟨zI _,by simp⟩
   ·rename_i e;cases e;exact step h
theorem jQ.set {α M:Type} {R:α->M->Prop} {a:α} : ∀ {l:List α} {m:List M} {i:Nat},jQ R l m->(∀ v,m[i]? =some v->R a v)->jQ R (l.set i a) m
 | [],[],_,h,_=>h
 | x::l,y::m,0,h,ha=>⟨ha y rfl,h.2⟩
 | x::l,y::m,i+1,h,ha=>⟨h.1,jQ.set h.2 fun v hv=>ha v hv⟩
theorem zTL (i:Nat):(st.rowNil T i).env=st.env:=by
 rw [zK9];unfold zIB;split
 ·split
  ·split<;>rfl
  ·rfl
 ·rfl
theorem GG.rowNil {tmps:Array Value} (h:GG B I M st tmps w) (id:Nat): ∃ β',GG B I β' (st.rowNil T id) tmps w:=by
 rw [zK9];unfold zIB;split
 case h_2=>exact ⟨M,h⟩
 rename_i t cs hi;split
 case h_2=>exact ⟨M,h⟩
 rename_i ix hix;split
 case h_2=>exact ⟨M,h⟩
 rename_i e u _;obtain ⟨_,hcell⟩:=zKC hix;rw [Nat.sub_zero] at hcell;have hlast:(M++[none])[st.next]? =some none:=by rw [<- h.len];simp
 have hold: ∀ {id:Nat},id<st.next->(M++[none])[id]? =M[id]? :=fun hi=>by rw [zbD];rw [h.len];exact hi
 have hidlt:=h.id_lt hi;refine ⟨M++[none],⟨h.mem.ag,fun id2 ob hi2=> ?_⟩,fun t=>(h.env t).more none,by simp [h.len],fun id2 ob p hi2 hp=> ?_,h.bel,h.grew⟩
 ·simp only [yL] at hi2;split at hi2
  ·rename_i e2;subst e2;cases hi2;obtain ⟨p,h1,h2,h3,h4,h5,c,h6,h7⟩:=h.mem.ob _ _ hi;refine ⟨p,by rw [hold hidlt];exact h1,h2,by rw [zbY];exact h3,h4,by rw [zbY];exact h5,c,h6,?_⟩;refine jQ.set (h7.mono fun _ _ h=>h.more none) fun v hv=> ?_;obtain ⟨v',hv',hr⟩:=h7.get hcell;rw [hv] at hv';cases hv';have:v= .slice none 0 0:=hr.1;subst this;simp only [y5,hlast];exact ⟨⟨none,rfl⟩,trivial,trivial⟩
  ·split at hi2
   ·rename_i e2;subst e2;cases hi2;exact ⟨zbH _,by rw [hlast]⟩
   ·rw [zAk] at hi2;split at hi2
    ·cases hi2
    ·exact (h.mem.ob _ _ hi2).keep none (fun _ _=>rfl) fun _ _ _=>rfl
 ·have get: ∀ {j:Nat} {o2:Ob} {q:Bk},hget ((id,.flat t (cs.set ix (.own st.next 0 0)))::(st.next,.row e u [])::zDU st.hp id) j=some o2->(M++[none])[j]? =some (some q)->∃ o1,hget st.hp j=some o1/\M[j]? =some (some q):=fun {j o2 q} hj hq=>by
   simp only [yL] at hj;split at hj
   ·rename_i e2;subst e2;exact ⟨_,hi,by rw [hold hidlt] at hq;exact hq⟩
   ·split at hj
    ·rename_i e2;subst e2;rw [hlast] at hq;cases hq
    ·rw [zAk] at hj;split at hj
     ·cases hj
     ·exact ⟨_,hj,by rw [hold (h.id_lt hj)] at hq;exact hq⟩
  obtain ⟨o1,g1,g2⟩:=get hi2 hp;obtain ⟨s1,s2,s3⟩:=h.sep _ _ _ g1 g2;refine ⟨s1,s2,fun id' ob' p' hne hi' hp'=> ?_⟩;obtain ⟨o2,g3,g4⟩:=get hi' hp';exact s3 _ _ _ hne g3 g4
theorem zHR {T:Tab} {B:Base} {K:St->Prop} : ∀ (ids:List Nat) {st:St} {a:Act} {w:World},GA B N st a w->zHc T K ids st->∃ st',GA B N st' a w/\K st'
 | [],st,_,_,h,hk=>⟨st,h,hk⟩
 | i::r,st,a,w,h,hk=>by
   unfold zHc at hk;rw [St.forceAll_eq] at hk;obtain ⟨σ',β',hg⟩:=h.gg;obtain ⟨β2,hg2⟩:=hg.rowNil (T:=T) i;exact zHR r ⟨h.defers,h.size,σ',β2,hg2⟩ hk
theorem zav {B:Base} {K:St->Prop} : ∀ (l:List Tmp) {st:St} {a:Act} {w:World},GA B N st a w->zax K l st->∃ st',GA B N st' a w/\K st'
 | [],st,_,_,h,hk=>⟨st,h,hk⟩
 | t::r,st,a,w,h,hk=>by
   unfold zax at hk;rw [St.forceAll_eq] at hk;obtain ⟨I,M,hg⟩:=h.gg;obtain ⟨σ',hg2⟩:=hg.freezeAll (AV.ids (yZ st.env t));exact zav r ⟨h.defers,h.size,σ',M,hg2⟩ hk
theorem zA2 (R:jM P T): ∀ (c:Code) {st:St} {a:Act} {w:World} {K:Exit->St->Prop} {Q:Exit->Act->World->Prop},codeOk N c=true->GA B N st a w->zA8 T c st K->
 (∀ e st' a' w',K e st'->GA B N st' a' w'->Q e a' w')->c.wpIn (FR r) n P Q a w:=by
 intro c
 induction c with
 | skip=>intro st a w K Q _ h hk hQ;exact wpIn_skip (hQ _ _ _ _ hk h)
 | label l=>intro st a w K Q _ h hk hQ;exact wpIn_label (hQ _ _ _ _ hk h)
 | exit i=>intro st a w K Q _ h hk hQ;exact wpIn_exit (hQ _ _ _ _ hk h)
 | goto l=>intro st a w K Q _ h hk hQ;exact wpIn_goto (hQ _ _ _ _ hk h)
 | ret=>intro st a w K Q _ h hk hQ;exact wpIn_ret (hQ _ _ _ _ hk h)
 | region id ops draw =>
   intro st a w K Q hok h hk hQ;simp only [codeOk,zC,zJ] at hok;exact zSw R hok.1 (fun e=>by simpa [e] using hok.2) h hk fun st' a' w'=>hQ _ _ _ _
 | seq x y ihx ihy =>
   intro st a w K Q hok h hk hQ;simp only [codeOk,zC] at hok;refine wpIn_seq (ihx hok.1 h hk fun e st' a' w' hk' h'=> ?_);cases e with
   | normal=>exact ihy hok.2 h' hk' hQ
   | _=>exact hQ _ _ _ _ hk' h'
 | cond c x y ihx ihy =>
   intro st a w K Q hok h hk hQ;simp only [codeOk,zC] at hok;simp only [zA8] at hk;split at hk
   ·rename_i t ht;have hev:=zJ3 h hok.1.1 ht;cases t with
    | true=>exact wpIn_cond_true hev (ihx hok.1.2 h hk hQ)
    | false=>exact wpIn_cond_false hev (ihy hok.2 h hk hQ)
   ·rename_i e xs ht;obtain ⟨I,M,hg⟩:=h.gg;have hr:=jP hg hok.1.1;rw [ht] at hr;obtain ⟨b,hev,hb⟩:=hr;obtain ⟨k1,k2⟩:=hk.out;cases b with
    | true=>exact wpIn_cond_true hev (ihx hok.1.2 h (k1.out (hb rfl)) hQ)
    | false=>exact wpIn_cond_false hev (ihy hok.2 h k2 hQ)
   ·rename_i e xs ht;obtain ⟨I,M,hg⟩:=h.gg;have hr:=jP hg hok.1.1;rw [ht] at hr;obtain ⟨b,hev,hb⟩:=hr;obtain ⟨k1,k2⟩:=hk.out;cases b with
    | true=>exact wpIn_cond_false hev (ihy hok.2 h (k2.out (hb rfl)) hQ)
    | false=>exact wpIn_cond_true hev (ihx hok.1.2 h k1 hQ)
   ·exact hk.elim
 | block id c ih =>
   intro st a w K Q hok h hk hQ;simp only [codeOk] at hok;refine wpIn_block (ih hok h hk fun e st' a' w' hk' h'=> ?_);cases e with
   | exit i =>
     simp only [Exit.inBlock];dsimp only at hk';split at hk'
     ·rename_i e;rw [if_pos (zH e)];exact hQ _ _ _ _ hk' h'
     ·rename_i e;rw [if_neg (fun e'=>by subst e';rw [zbJ] at e;cases e)];exact hQ _ _ _ _ hk' h'
   | _=>exact hQ _ _ _ _ hk' h'
 | loop c ih =>
   intro st a w K Q hok h hk hQ;simp only [codeOk] at hok;simp only [zA8,St.forceAll_eq] at hk;rcases hk with ⟨m,hk⟩|⟨X,S,hk⟩
   ·refine wpIn_loop_rounds m ?_
    have key: ∀ m {st:St} {a:Act} {w:World},GA B N st a w->rounds (zA8 T c) K m st->Code.roundsIn (FR r) n P c Q m a w:=by
     intro m
     induction m with
     | zero=>intro st a w _ hk;exact hk.elim
     | succ m ihm =>
       intro st a w h hk;refine ih hok h hk fun e st' a' w' hk' h'=> ?_;cases e with
       | normal=>exact ihm h' hk'
       | _=>exact hQ _ _ _ _ hk' h'
    exact key m h hk
   ·obtain ⟨st,h,hk⟩:=zHR S.nils h hk;obtain ⟨st,h,⟨x0,hi0,hle0⟩,hround⟩:=zav S.frz h hk;refine wpIn_loop_ghost (fun m a w=> ∃ x,S.inv x/\S.mu x=m/\GA B N (S.head st x) a w) (S.mu x0) ⟨x0,hi0,rfl,h.weaken hle0⟩ ?_;rintro m a w ⟨x,hi,rfl,hx⟩;refine ih hok hx (hround x hi) fun e st' a' w' hk' h'=> ?_;cases e with
    | normal =>
      obtain ⟨s2,h2,y,hy,hle,hlt⟩:=zav S.frz h' hk';exact ⟨_,hlt,y,hy,rfl,h2.weaken hle⟩
    | _=>exact hQ _ _ _ _ hk' h'
 | _=>intro st a w K Q hok;cases hok
end
end Go.Vm
namespace Go.Vm
open Go.RowKit
def ETy.good:(e:ETy)->e.T->Prop
 | .int .i64,n=>yP n
 | .int k,n=>k.wrap n=n
 | .bool,_=>True
 | .arr2,x=>yP x.1/\yP x.2
 | .arr3,x=>yP x.1/\yP x.2.1/\yP x.2.2
 | .pair a b,x=>a.good x.1/\b.good x.2
 | .sl e,xs=>xs.length<=140737488355328/\∀ x∈xs,e.good x
 | .mp k _,m=> ∀ x∈m,k.good x.1
 | .pt e,o=> ∀ x,o=some x->e.good x
 | .unit,_=>True
 | .fnc,_=>True
def AS.good:AS->Prop
 | .int .i64 n=>yP n
 | .int k n=>k.wrap n=n
 | .sl e xs=>(ETy.sl e).good xs
 | .mp k v m=>(ETy.mp k v).good m
 | .pt e o=>(ETy.pt e).good o
 | .ip e x _=>e.good x
 | .ipi e x _=>e.good x
 | _=>True
def zQ3:List AS->Prop
 | []=>True
 | a::l=>a.good/\zQ3 l
def AV.good:AV->Prop
 | .s a=>a.good
 | .agg l=>zQ3 l
 | .tup _=>True
def zBl:List AV->Prop
 | []=>True
 | a::l=>a.good/\zBl l
section
variable {P:Program} {B:Base} {w:World} {I:Sig} {M:yR} {st:St} {T:Tab} {a:Act} {hp:jJ}
theorem zFR {n:Int} (h:InK .i64 n):yP n:=InK.i64.1 h
theorem jG.good: ∀ {e:ETy} {x:e.T} {ds:List Value},jG I e x ds->e.good x
 | .int k,n,ds,h=>by cases k<;>first|exact zFR h.2|exact h.2
 | .bool,_,_,_=>trivial
 | .arr2,x,_,h=>⟨zFR h.2.1,zFR h.2.2⟩
 | .arr3,x,_,h=>⟨zFR h.2.1,zFR h.2.2.1,zFR h.2.2.2⟩
 | .pair a b,x,_,h=>by obtain ⟨d1,d2,_,h1,h2⟩:=h;exact ⟨h1.good,h2.good⟩
 | .sl e,xs,_,h=>by
   obtain ⟨p,cap,_,hl,_,h⟩:=h;refine ⟨hl,fun x hx=> ?_⟩;obtain ⟨b,o,_,h⟩:=h (List.ne_nil_of_mem hx);obtain ⟨i,hi,rfl⟩:=yG.1 hx;obtain ⟨d,h1,_⟩:=h i _ (zG hi);exact h1.good
 | .mp k v,m,_,h=>by
   obtain ⟨p,_,hl,hn,h⟩:=h;refine fun x hx=> ?_;cases p with
   | none=>rw [hn rfl] at hx;cases hx
   | some b =>
     obtain ⟨es,clock,_,_,h⟩:=h b rfl;obtain ⟨i,hi,rfl⟩:=yG.1 hx;obtain ⟨en,dk,dv,_,h1,_⟩:=h i _ (zG hi);exact h1.good
 | .pt e,none,_,_=>fun x hx=>by cases hx
 | .pt e,some x,_,h=>fun y hy=>by
   cases hy;obtain ⟨b,off,d,_,h1,_⟩:=h;exact h1.good
 | .unit,_,_,_=>trivial
 | .fnc,_,_,_=>trivial
theorem y5.good {x:AS} {v:Value} (h:y5 I M x v):x.good:=by
 cases x with
 | int k n=>obtain ⟨_,h⟩:=h;cases k<;>first|exact zFR h|exact h
 | sl e xs=>exact jG.good h
 | mp k v m=>exact jG.good h
 | pt e o=>exact jG.good h
 | ip e x k=>obtain ⟨b,o,d,_,h1,_⟩:=h;exact h1.good
 | ipi e x k=>obtain ⟨b,o,d,_,h1,_⟩:=h;exact h1.good
 | _=>trivial
theorem zOh: ∀ {l:List AS} {ds:List Value},jQ (y5 I M) l ds->zQ3 l
 | [],_,_=>trivial
 | _::_,_::_,h=>⟨h.1.good,zOh h.2⟩
 | _::_,[],h=>h.elim
theorem y6.good {x:AV} {v:Value} (h:y6 I M x v):x.good:=by
 cases x with
 | s a=>exact y5.good h
 | agg l=>obtain ⟨ds,_,r⟩:=h;exact zOh r
 | tup l=>trivial
theorem zCF: ∀ {l:List AV} {m:List Value},jH I M l m->zBl l
 | [],_,_=>trivial
 | _::_,_::_,h=>⟨y6.good h.1,zCF h.2⟩
 | _::_,[],h=>h.elim
theorem zDz: ∀ {l:List AV} {m:List Value},jH I M l m->l.length=m.length
 | [],[],_=>rfl
 | _::_,_::_,h=>by simp [zDz h.2]
 | [],_::_,h=>h.elim
 | _::_,[],h=>h.elim
theorem zGh {m:Nat} : ∀ {l:List AV} {vs:List Value} (i:Nat),jH I M l vs->∀ t,y6 I M (yZ (zHQ i l) t) (if t<i then undef else (vs++List.replicate m undef).getD (t - i) undef)
 | [],_,i,_,t=>trivial
 | x::l,[],i,h,t=>h.elim
 | x ::l,v::vs,i,h,t=>by
   simp only [zHQ];rw [qR];split
   ·rename_i e;subst e;simpa using h.1
   ·rename_i hne;have:=zGh (m:=m) (i+1) h.2 t
    by_cases h1:t<i
    ·rw [if_pos (by omega)] at this;rw [if_pos h1];exact this
    ·rw [if_neg (by omega)] at this;rw [if_neg h1];obtain ⟨j,rfl⟩: ∃ j,t=i+1+j:=⟨t - (i+1),by omega⟩;rw [show i+1+j - (i+1)=j by omega] at this;rw [show i+1+j - i=j+1 by omega];exact this
theorem zJA {vals:List Value} {args:List AV} {N:Nat} (hag:Ag I w) (hv:jH I [] args vals) (hN:args.length<=N) :
 GA ⟨w,I,[]⟩ N (St.init args) {tmps:=vals.toArray++Array.replicate (N - vals.toArray.size) undef,defers:=[]} w:=by
 have hlen:=zDz hv;refine ⟨rfl,by simp;omega,I,[],⟨hag,fun id ob hi=>by cases hi⟩,fun t=> ?_,rfl,fun id ob p hi=>(by cases hi),Below.refl _ _,Sig.le.refl _,fun b _=>rfl⟩;have:=zGh (m:=N - vals.length) 0 hv t;simp only [Nat.not_lt_zero,if_false,Nat.sub_zero] at this
 have e:((vals.toArray++Array.replicate (N - vals.toArray.size) undef).getD t undef)=(vals++List.replicate (N - vals.length) undef).getD t undef:=by
  rw [show vals.toArray++Array.replicate (N - vals.toArray.size) undef=(vals++List.replicate (N - vals.length) undef).toArray by simp];simp [zL,zR]
 show y6 I [] (yZ (zHQ 0 args) t) ((vals.toArray++Array.replicate (N - vals.toArray.size) undef).getD t undef);rw [e];exact this
def zTc:List Value->Value
 | [v]=>v
 | vs=> .tuple vs.toArray
theorem zSG {Q:ResultVar->Value->Prop} {g:ResultVar->Sem Value} : ∀ {l:List ResultVar},(∀ r∈l,∃ v,(g r).run P w= .ok v w/\Q r v)->∃ vs,(l.mapM g).run P w= .ok vs w/\jQ Q l vs
 | [],_=>⟨[],by simp,trivial⟩
 | r::l,h=>by
   obtain ⟨v,h1,h2⟩:=h r (by simp);obtain ⟨vs,h3,h4⟩:=zSG (l:=l) fun r hr=>h r (by simp [hr]);refine ⟨v::vs,?_,h2,h4⟩;rw [List.mapM_cons];simp only [zaz,h1,zay,h3,zb4]
theorem zB5 {fn:Func} {tmps:Array Value} {Q:ResultVar->Value->Prop}
 (h: ∀ r∈fn.results.toList,∃ v,(match r with|.tmp t=>(pure (tmps.getD t undef):Sem Value)|.cell a t=>do loadVar t (<- asAddr (tmps.getD a undef))).run P w= .ok v w/\Q r v) :
 ∃ vs,(results fn tmps).run P w= .ok (zTc vs) w/\jQ Q fn.results.toList vs:=by
 obtain ⟨vs,h1,h2⟩:=zSG h;refine ⟨vs,?_,h2⟩;have e:fn.results=fn.results.toList.toArray:=by simp
 unfold results;rw [e,List.mapM_toArray];simp only [zaz,Sem.run_map];refine (congrArg (fun z=>(Result.andThen z fun (a:List Value) w'=>Result.ok a.toArray w').andThen fun (a:Array Value) w'=>Sem.run P (pure (if h:a.size=1 then a[0] else Value.tuple a)) w') h1).trans ?_
 match vs with
 | []=>rfl
 | [v]=>rfl
 | v::u::vs=>rfl
theorem zJu {τ:Sig} {fn:Func} {vs:List Value} (h:jQ (fun r v=>y6 τ [] (zGQ T st r) v) fn.results.toList vs):y6 τ [] (zKo T fn st) (zTc vs):=by
 unfold zKo;generalize fn.results.toList=l at h
 match l,vs,h with
 | [],[],_=>exact ⟨[],rfl,trivial⟩
 | [r],[v],h=>exact h.1
 | r ::s::l,v::u::vs,h =>
   refine ⟨_,rfl,?_⟩;rw [zCL]
   have: ∀ {l:List ResultVar} {vs:List Value},jQ (fun r v=>y6 τ [] (zGQ T st r) v) l vs->jQ (y6 τ []) (l.map (zGQ T st)) vs:=by
    intro l
    induction l with
    | nil=>intro vs h;cases vs with|nil=>trivial|cons=>exact h.elim
    | cons x l ih=>intro vs h;cases vs with|nil=>exact h.elim|cons v vs=>exact ⟨h.1,ih h.2⟩
   exact this h
theorem z94 (R:jM P T) {f:FuncId} {fn:Func} {c:Code} (hf:P.funcs[f]? =some fn) (hb:fn.body=some c) (hok:codeOk fn.ntmps c=true)
 {args:List AV} (hl:args.length<=fn.ntmps) {q:Option Prop} {u:AV} (h:zBl args->Opt q->zAG T fn args (fun v=>v=u)):zCn P f args (none,q,u):=by
 intro I vals w hag hv;refine ⟨trivial,fun hq=> ?_⟩;have hga:=zJA (N:=fn.ntmps) hag hv hl;have hk:=h (zCF hv) hq;simp only [zAG,hb,St.forceAll_eq] at hk;refine (callsIn_of_wp (F:=Fence.wide) (n:=0) hf hb trivial ?_).calls (fun _ _ hd=>by cases hd);rw [<- FR.none];refine zA2 R c hok hga hk fun e st' a' w' hp h'=> ?_
 have fin:(match fn.results.toList.all (zGU T st') with|true=>zKo T fn st'=u|false=>False)->a'.defers=[]/\∃ v,(results fn a'.tmps).run P w'= .ok v w'/\∃ v' σ',(Ending.returned v)= .returned v'/\I.le σ'/\Ag σ' w'/\
  (∀ b,b<w.heap.size->σ' b=I b)/\y6 σ' [] u v'/\Below w.heap.size w w':=by
  intro hu;split at hu
  case h_2=>exact hu.elim
  rename_i hallok;obtain ⟨σ1,β1,hg⟩:=h'.gg
  have hview: ∀ {x:AV} {v:Value},y6 σ1 β1 x v->y6 (fun b=>if b<w.heap.size then I b else w'.heap[b]?) [] (x.viewT T st'.hp) v:=fun {x v} hx=>by
   refine AV.viewT_rep_at (fun b o e=> ?_) (fun id ob p hi hp=> ?_) hg.mem hx
   ·split
    ·rename_i hlt;rw [hg.grew.2 b hlt] at e;exact ⟨o,e,.refl⟩
    ·exact hg.mem.ag _ _ e
   ·have:=(hg.sep _ _ _ hi hp).2.1;dsimp only at this;rw [if_neg (by omega)]
  obtain ⟨vs,hrun,hall⟩:=zB5 (P:=P) (w:=w') (fn:=fn) (tmps:=a'.tmps) (Q:=fun r v=>y6 (fun b=>if b<w.heap.size then I b else w'.heap[b]?) [] (zGQ T st' r) v) (fun r hr=>by
   have hro:=zJ.1 hallok r hr;cases r with
   | tmp t=>exact ⟨_,rfl,hview (hg.env t)⟩
   | cell a t =>
     simp only [zGU] at hro;simp only [zGQ];have hx:=hg.env a;split at hro
     ·rename_i id i k hea;rw [hea] at hx;split at hro
      ·rename_i v hv;obtain ⟨p,_,hptr,_⟩:=hx;obtain ⟨_,hrun⟩:=zBf (w:=w') R.ty R.one hg.mem (t:=t) (hg.env a) (p:=none) (q:=none) (v:=v) (by rw [hea];exact hv);obtain ⟨val,h1,h2⟩:=hrun trivial;refine ⟨val,?_,hview h2⟩;rw [hptr] at h1 ⊢;rw [zBL] at h1;simp only [asAddr,zaz,zb4,zay];exact h1
      ·cases hro
     ·cases hro)
  refine ⟨h'.defers,_,hrun,_,(fun b=>if b<w.heap.size then I b else w'.heap[b]?),rfl,fun b o e=> ?_,fun b o e=> ?_,fun b hb=>by simp [hb],by rw [<- hu];exact zJu hall,hg.bel⟩
  ·have:b<w.heap.size:=hag.lt e;exact ⟨o,by simp [this,e],.refl⟩
  ·dsimp only at e;split at e
   ·rename_i hlt;rw [<- show σ1 b=I b from hg.grew.2 b hlt] at e;exact hg.mem.ag _ _ e
   ·exact ⟨o,e,.refl⟩
 cases e with
 | normal=>simp only [post,AV.force_eq] at hp;exact fin hp
 | ret=>simp only [post,AV.force_eq] at hp;exact fin hp
 | _=>exact hp.elim
theorem zKn {i:Nat} : ∀ {l:List Nat} {n m:Nat},zQg i l n=some m->∃ j,m=n+j/\l[j]? =some i
 | [],_,_,h=>by cases h
 | k ::r,n,m,h=>by
   simp only [zQg] at h;split at h
   ·rename_i hb;cases h;exact ⟨0,rfl,by simp [zH hb]⟩
   ·obtain ⟨j,e1,e2⟩:=zKn h;exact ⟨j+1,by omega,by simpa using e2⟩
theorem y5.ren {ids:List Nat} {a:AS} {v:Value} (h:y5 I M a v):y5 I (ids.map fun i=>(M[i]?).getD none) (zTE ids a) v:=by
 cases a with
 | own i s n =>
   simp only [zTE];split
   ·rename_i m hm;obtain ⟨j,e1,e2⟩:=zKn hm;rw [zD] at e1;subst e1;simp only [y5] at h ⊢;rw [zbf,e2];cases e:M[i]? with
    | none=>simp [e] at h
    | some q=>simpa [e] using h
   ·trivial
 | ptr=>trivial
 | pti=>trivial
 | omp=>trivial
 | arr=>trivial
 | _=>exact h
theorem zFc {base:Nat} (hm: ∀ id ob,hget st.hp id=some ob->zAf I M w id ob)
 (hs: ∀ id ob p,hget st.hp id=some ob->M[id]? =some (some p)->I p.b=none/\base<=p.b/\∀ id' ob' p',id'≠id->hget st.hp id'=some ob'->M[id']? =some (some p')->p'.b≠p.b) :
 ∀ (ids:List Nat),nodupB ids=true->zMZ st.hp ids=true->zBs I base w (zJj st.hp ids) (ids.map fun i=>(M[i]?).getD none)
 | [],_,_=>trivial
 | i ::r,hn,hr=>by
   simp only [nodupB,zC,zbB] at hn;simp only [zMZ] at hr;split at hr
   case h_2=>cases hr
   rename_i o ho;rw [zC] at hr;have hob:=hm _ _ ho;obtain ⟨x,hx⟩:=hob.place;have e1:zJj st.hp (i::r)=o::zJj st.hp r:=by simp only [zJj,ho]
   rw [e1,zbk]
   have hrows: ∀ (ids:List Nat),zMZ st.hp ids=true->∀ j∈ids,∃ o,hget st.hp j=some o:=by
    intro ids
    induction ids with
    | nil=>intro _ j hj;cases hj
    | cons k l ih =>
      intro hh j hj;simp only [zMZ] at hh;split at hh
      ·rename_i o' ho';rw [zC] at hh;rcases zT.1 hj with e|e
       ·subst e;exact ⟨_,ho'⟩
       ·exact ih hh.2 j e
      ·cases hh
   refine ⟨?_,?_,fun p hp=> ?_,zFc hm hs r hn.2 hr.2⟩
   ·cases o with
    | row e u xs=>exact ⟨e,u,xs,rfl⟩
    | flat=>cases hr.1
    | map=>cases hr.1
    | gmap=>cases hr.1
    | grow=>cases hr.1
    | fr=>cases hr.1
   ·cases o with
    | row e u xs=>exact hob.move (by rw [hx];rfl)
    | flat=>cases hr.1
    | map=>cases hr.1
    | gmap=>cases hr.1
    | grow=>cases hr.1
    | fr=>cases hr.1
   ·rw [hx] at hp;have hp:x=some p:=hp;subst hp;obtain ⟨s1,s2,s3⟩:=hs _ _ _ ho hx;refine ⟨s1,s2,fun q' hq' p' hp'=> ?_⟩;obtain ⟨j,hj,rfl⟩:=yC.1 hq';obtain ⟨o',ho'⟩:=hrows r hr.2 j hj
    have hne:j≠i:=by
     intro e;subst e;rw [zE7.2 hj] at hn;cases hn.1
    obtain ⟨y,hy⟩:=(hm _ _ ho').place;rw [hy] at hp';have hp':y=some p':=hp';subst hp';exact s3 _ _ _ hne ho' hy
theorem zG8 {τ:Sig} {γ:yR} {fn:Func} {vs:List Value} (h:jQ (fun r v=>y6 τ γ (zEW T st r) v) fn.results.toList vs):y6 τ γ (zAW T fn st) (zTc vs):=by
 unfold zAW;generalize fn.results.toList=l at h
 match l,vs,h with
 | [],[],_=>exact ⟨[],rfl,trivial⟩
 | [r],[v],h=>exact h.1
 | r ::s::l,v::u::vs,h =>
   refine ⟨_,rfl,?_⟩;rw [zCL]
   have: ∀ {l:List ResultVar} {vs:List Value},jQ (fun r v=>y6 τ γ (zEW T st r) v) l vs->jQ (y6 τ γ) (l.map (zEW T st)) vs:=by
    intro l
    induction l with
    | nil=>intro vs h;cases vs with|nil=>trivial|cons=>exact h.elim
    | cons x l ih=>intro vs h;cases vs with|nil=>exact h.elim|cons v vs=>exact ⟨h.1,ih h.2⟩
   exact this h
theorem z2z (R:jM P T) {f:FuncId} {fn:Func} {c:Code} (hf:P.funcs[f]? =some fn) (hb:fn.body=some c) (hok:codeOk fn.ntmps c=true)
 {args:List AV} (hl:args.length<=fn.ntmps) {q:Option Prop} {Rp:AV->List Ob->Prop} (h:zBl args->Opt q->zFB T fn args Rp) (I:Sig) (vals:List Value) (w:World) (hag:Ag I w) (hv:jH I [] args vals) (hq:Opt q) :
   Calls P f vals.toArray w fun e w'=> ∃ u us v σ' β',Rp u us/\e= .returned v/\I.le σ'/\Ag σ' w'/\
   (∀ b,b<w.heap.size->σ' b=I b)/\y6 σ' β' u v/\zBs σ' w.heap.size w' us β'/\Below w.heap.size w w':=by
 have hga:=zJA (N:=fn.ntmps) hag hv hl;have hk:=h (zCF hv) hq;simp only [zFB,hb,St.forceAll_eq] at hk;refine (callsIn_of_wp (F:=Fence.wide) (n:=0) hf hb trivial ?_).calls (fun _ _ hd=>by cases hd);rw [<- FR.none];refine zA2 R c hok hga hk fun e st' a' w' hp h'=> ?_
 have fin:(match fn.results.toList.all (zGU T st')&&(nodupB (zAv (zAW T fn st').parts)&&zMZ st'.hp (zAv (zAW T fn st').parts)) with
  | true=>Rp ((zAW T fn st').mapAS (zTE (zAv (zAW T fn st').parts))) (zJj st'.hp (zAv (zAW T fn st').parts))
  | false=>False)->a'.defers=[]/\∃ v,(results fn a'.tmps).run P w'= .ok v w'/\∃ u us v' σ' β',Rp u us/\(Ending.returned v)= .returned v'/\I.le σ'/\Ag σ' w'/\
  (∀ b,b<w.heap.size->σ' b=I b)/\y6 σ' β' u v'/\zBs σ' w.heap.size w' us β'/\Below w.heap.size w w':=by
  intro hu;split at hu
  case h_2=>exact hu.elim
  rename_i hallok;rw [zC,zC] at hallok;obtain ⟨hallok,hnd,hrows⟩:=hallok;obtain ⟨σ1,β1,hg⟩:=h'.gg
  obtain ⟨vs,hrun,hall⟩:=zB5 (P:=P) (w:=w') (fn:=fn) (tmps:=a'.tmps) (Q:=fun r v=>y6 σ1 β1 (zEW T st' r) v) (fun r hr=>by
   have hro:=zJ.1 hallok r hr;cases r with
   | tmp t=>exact ⟨_,rfl,hg.env t⟩
   | cell a t =>
     simp only [zGU] at hro;simp only [zEW];have hx:=hg.env a;split at hro
     ·rename_i id i k hea;rw [hea] at hx;split at hro
      ·rename_i v hv;obtain ⟨p,_,hptr,_⟩:=hx;obtain ⟨_,hrun⟩:=zBf (w:=w') R.ty R.one hg.mem (t:=t) (hg.env a) (p:=none) (q:=none) (v:=v) (by rw [hea];exact hv);obtain ⟨val,h1,h2⟩:=hrun trivial;refine ⟨val,?_,h2⟩;rw [hptr] at h1 ⊢;rw [zBL] at h1;simp only [asAddr,zaz,zb4,zay];exact h1
      ·cases hro
     ·cases hro)
  refine ⟨h'.defers,_,hrun,_,_,_,σ1,(zAv (zAW T fn st').parts).map fun i=>(β1[i]?).getD none,hu,rfl,hg.grew.1,hg.mem.ag,hg.grew.2,?_,?_,hg.bel⟩
  ·exact (zG8 hall).mapAS fun a v ha=>y5.ren (ids:=zAv (zAW T fn st').parts) ha
  ·exact zFc (w:=w') hg.mem.ob hg.sep _ hnd hrows
 cases e with
 | normal=>simp only [zS5,AV.force_eq] at hp;exact fin hp
 | ret=>simp only [zS5,AV.force_eq] at hp;exact fin hp
 | _=>exact hp.elim
theorem z6o (R:jM P T) {f:FuncId} {fn:Func} {c:Code} (hf:P.funcs[f]? =some fn) (hb:fn.body=some c) (hok:codeOk fn.ntmps c=true)
 {args:List AV} (hl:args.length<=fn.ntmps) {q:Option Prop} {u:AV} {us:List Ob} (h:zBl args->Opt q->zFB T fn args (fun v obs=>v=u/\obs=us)):zCv P f args (none,q,u,us):=by
 intro I vals w hag hv;refine ⟨trivial,fun hq=>(z2z R hf hb hok hl h I vals w hag hv hq).mono ?_⟩;rintro e w' ⟨u1,us1,v,σ',β',⟨rfl,rfl⟩,h2⟩;exact ⟨v,σ',β',h2⟩
end
end Go.Vm
namespace Go.Vm
def yJ (p:Prop):Prop:=p
theorem yJ.out {p:Prop} (h:yJ p):p:=h
theorem yJ.intro {p:Prop} (h:p):yJ p:=h
def y9 (a b:AV):Prop:=a=b
theorem y9.out {a b:AV} (h:y9 a b):a=b:=h
theorem y9.intro {a b:AV} (h:a=b):y9 a b:=h
def zId (a b:Prop):Prop:=a\/b
theorem zId.out {a b:Prop} (h:zId a b):a\/b:=h
theorem zId.intro {a b:Prop} (h:a\/b):zId a b:=h
def jL (a b:Ob):Prop:=a=b
theorem jL.out {a b:Ob} (h:jL a b):some a=some b:=congrArg some h
theorem jL.intro {a b:Ob} (h:a=b):jL a b:=h
def zBy (a b:List Ob):Prop:=a=b
theorem zBy.out {a b:List Ob} (h:zBy a b):a=b:=h
theorem zBy.intro {a b:List Ob} (h:a=b):zBy a b:=h
attribute [irreducible] yJ y9 zId jL zBy
theorem zBy.row {e:ETy} {u:TypeId} {m n:List e.T} (h:m=n):zBy [.row e u m] [.row e u n]:=zBy.intro (by rw [h])
theorem jL.row {e:ETy} {u:TypeId} {m n:List e.T} (h:m=n):jL (.row e u m) (.row e u n):=jL.intro (by rw [h])
theorem jL.map {k v:ETy} {m n:List (k.T×v.T)} (h:m=n):jL (.map k v m) (.map k v n):=jL.intro (by rw [h])
theorem jL.gmap {k e:ETy} {m n:List (k.T×List e.T)} (h:m=n):jL (.gmap k e m) (.gmap k e n):=jL.intro (by rw [h])
theorem jL.grow {e:ETy} {u:TypeId} {m n:List (List e.T)} (h:m=n):jL (.grow e u m) (.grow e u n):=jL.intro (by rw [h])
theorem y9.int {k:IntKind} {m n:Int} (h:m=n):y9 (.s (.int k m)) (.s (.int k n)):=y9.intro (by rw [h])
theorem y9.bool {m n:Bool} (h:m=n):y9 (.s (.bool m)) (.s (.bool n)):=y9.intro (by rw [h])
theorem y9.sl {e:ETy} {m n:List e.T} (h:m=n):y9 (.s (.sl e m)) (.s (.sl e n)):=y9.intro (by rw [h])
theorem zX {α M:Type _} (p:α×M):(p.1,p.2)=p:=rfl
theorem z7 {α:Sort _} {a:α} {motive:(b:α)->a=b->Sort _} (x:motive a rfl) (h:a=a): @Eq.rec α a motive x a h=x:=rfl
def ETy.av (e:ETy) (x:e.T):AV :=
 match e.isAgg with
 | true=> .agg (e.cells x)
 | false=>match e.cells x with
   | [a]=> .s a
   | _=> .junk
def ETy.of (e:ETy) (v:AV):Option e.T :=
 match v.isAgg==e.isAgg,v.flat with
 | true,some l=>e.dec l
 | _,_=>none
section
variable {P:Program} {T:Tab} {I:Sig} {M:yR}
theorem ETy.cells_one: ∀ {e:ETy} {x:e.T},e.isAgg=false->∃ a,e.cells x=[a]
 | .int _,_,_=>⟨_,rfl⟩
 | .bool,_,_=>⟨_,rfl⟩
 | .sl _,_,_=>⟨_,rfl⟩
 | .mp _ _,_,_=>⟨_,rfl⟩
 | .pt _,_,_=>⟨_,rfl⟩
 | .fnc,_,_=>⟨_,rfl⟩
theorem ETy.av_rep {e:ETy} {x:e.T} {ds:List Value} (h:jG I e x ds):y6 I M (e.av x) (yX e ds):=by
 unfold ETy.av;cases hg:e.isAgg with
 | true=>exact ⟨ds,zEy h.length hg,h.cells⟩
 | false =>
   obtain ⟨a,ha⟩:=ETy.cells_one (x:=x) hg;have hc:=h.cells (M:=M);rw [ha] at hc ⊢;obtain ⟨d,rfl,hd⟩:=hc.len_one;rw [zKc hg];exact hd
theorem ETy.of_rep {e:ETy} {v:AV} {x:e.T} {val:Value} (h:e.of v=some x) (hv:y6 I M v val):jG I e x val.cells.toList/\y6 I M (e.av x) val:=by
 unfold ETy.of at h;split at h
 ·rename_i hb hl;have h1:=ETy.dec_sound h (zBC hv hl);refine ⟨h1,?_⟩;have h2:=zEK hv hl (by simpa using hb) h1.length;have h3:=ETy.av_rep (M:=M) h1;rw [<- h2] at h3;exact h3
 ·cases h
theorem zCn.imp {f:FuncId} {args args':List AV} {r:Res} (h:zCn P f args' r) (hi: ∀ I vals,jH I [] args vals->jH I [] args' vals):zCn P f args r :=
 fun I vals w h1 h2=>h I vals w h1 (hi I vals h2)
def zEz {ρ:Type} (a:ETy) (f:a.T->Option ρ):List AV->Option ρ
 | [u]=>match a.of u with
   | some x=>f x
   | _=>none
 | _=>none
def zCr {ρ:Type} (a b:ETy) (f:a.T->b.T->Option ρ):List AV->Option ρ
 | [u,v]=>match a.of u,b.of v with
   | some x,some y=>f x y
   | _,_=>none
 | _=>none
def zOw {ρ:Type} (a b c:ETy) (f:a.T->b.T->c.T->Option ρ):List AV->Option ρ
 | [u,v,w]=>match a.of u,b.of v,c.of w with
   | some x,some y,some z=>f x y z
   | _,_,_=>none
 | _=>none
theorem zA1 {a:ETy} {f:a.T->Option Res} {n:FuncId} (h: ∀ x r,f x=some r->zCn P n [a.av x] r): ∀ args r,zEz a f args=some r->zCn P n args r:=by
 intro args r e;unfold zEz at e;split at e
 ·split at e
  ·rename_i x hx;refine (h _ _ e).imp fun I vals hv=> ?_
   match vals,hv with
   | [v],hv=>exact ⟨(ETy.of_rep hx hv.1).2,trivial⟩
  ·cases e
 ·cases e
theorem jD {a b:ETy} {f:a.T->b.T->Option Res} {n:FuncId} (h: ∀ x y r,f x y=some r->zCn P n [a.av x,b.av y] r): ∀ args r,zCr a b f args=some r->zCn P n args r:=by
 intro args r e;unfold zCr at e;split at e
 ·split at e
  ·rename_i x y hx hy;refine (h _ _ _ e).imp fun I vals hv=> ?_
   match vals,hv with
   | [v,w],hv=>exact ⟨(ETy.of_rep hx hv.1).2,(ETy.of_rep hy hv.2.1).2,trivial⟩
  ·cases e
 ·cases e
theorem zDZ {a b c:ETy} {f:a.T->b.T->c.T->Option Res} {n:FuncId} (h: ∀ x y z r,f x y z=some r->zCn P n [a.av x,b.av y,c.av z] r): ∀ args r,zOw a b c f args=some r->zCn P n args r:=by
 intro args r e;unfold zOw at e;split at e
 ·split at e
  ·rename_i x y z hx hy hz;refine (h _ _ _ _ e).imp fun I vals hv=> ?_
   match vals,hv with
   | [v,w,u],hv=>exact ⟨(ETy.of_rep hx hv.1).2,(ETy.of_rep hy hv.2.1).2,(ETy.of_rep hz hv.2.2.1).2,trivial⟩
  ·cases e
 ·cases e
theorem zCv.imp {f:FuncId} {args args':List AV} {r:zKQ} (h:zCv P f args' r) (hi: ∀ I vals,jH I [] args vals->jH I [] args' vals):zCv P f args r :=
 fun I vals w h1 h2=>h I vals w h1 (hi I vals h2)
theorem z0y {ρ:Type} {Ok:List AV->ρ->Prop} (hi: ∀ args args' r,Ok args' r->(∀ I vals,jH I [] args vals->jH I [] args' vals)->Ok args r) {a:ETy} {f:a.T->Option ρ} (h: ∀ x r,f x=some r->Ok [a.av x] r): ∀ args r,zEz a f args=some r->Ok args r:=by
 intro args r e;unfold zEz at e;split at e
 ·split at e
  ·rename_i x hx;refine hi _ _ _ (h _ _ e) fun I vals hv=> ?_
   match vals,hv with
   | [v],hv=>exact ⟨(ETy.of_rep hx hv.1).2,trivial⟩
  ·cases e
 ·cases e
theorem zCC {a:ETy} {f:a.T->Option zKQ} {n:FuncId} (h: ∀ x r,f x=some r->zCv P n [a.av x] r): ∀ args r,zEz a f args=some r->zCv P n args r :=
 z0y (Ok:=zCv P n) (fun _ _ _ h hi=>zCv.imp h hi) h
theorem zZz {ρ:Type} {Ok:List AV->ρ->Prop} (hi: ∀ args args' r,Ok args' r->(∀ I vals,jH I [] args vals->jH I [] args' vals)->Ok args r) {a b:ETy} {f:a.T->b.T->Option ρ} (h: ∀ x y r,f x y=some r->Ok [a.av x,b.av y] r): ∀ args r,zCr a b f args=some r->Ok args r:=by
 intro args r e;unfold zCr at e;split at e
 ·split at e
  ·rename_i x y hx hy;refine hi _ _ _ (h _ _ _ e) fun I vals hv=> ?_
   match vals,hv with
   | [v,w],hv=>exact ⟨(ETy.of_rep hx hv.1).2,(ETy.of_rep hy hv.2.1).2,trivial⟩
  ·cases e
 ·cases e
theorem zSK {a b:ETy} {f:a.T->b.T->Option zKQ} {n:FuncId} (h: ∀ x y r,f x y=some r->zCv P n [a.av x,b.av y] r): ∀ args r,zCr a b f args=some r->zCv P n args r :=
 zZz (Ok:=zCv P n) (fun _ _ _ h hi=>zCv.imp h hi) h
theorem zZE {ρ:Type} {Ok:List AV->ρ->Prop} (hi: ∀ args args' r,Ok args' r->(∀ I vals,jH I [] args vals->jH I [] args' vals)->Ok args r) {a b c:ETy} {f:a.T->b.T->c.T->Option ρ} (h: ∀ x y z r,f x y z=some r->Ok [a.av x,b.av y,c.av z] r): ∀ args r,zOw a b c f args=some r->Ok args r:=by
 intro args r e;unfold zOw at e;split at e
 ·split at e
  ·rename_i x y z hx hy hz;refine hi _ _ _ (h _ _ _ _ e) fun I vals hv=> ?_
   match vals,hv with
   | [v,w,u],hv=>exact ⟨(ETy.of_rep hx hv.1).2,(ETy.of_rep hy hv.2.1).2,(ETy.of_rep hz hv.2.2.1).2,trivial⟩
  ·cases e
 ·cases e
theorem zRF {a b c:ETy} {f:a.T->b.T->c.T->Option zKQ} {n:FuncId} (h: ∀ x y z r,f x y z=some r->zCv P n [a.av x,b.av y,c.av z] r): ∀ args r,zOw a b c f args=some r->zCv P n args r :=
 zZE (Ok:=zCv P n) (fun _ _ _ h hi=>zCv.imp h hi) h
theorem zBi {α:Type} : ∀ {l:List (Nat×α)} {t:Nat} {x:α},zFP l t=some x->(t,x)∈l
 | [],_,_,h=>by cases h
 | (k,v)::r,t,x,h=>by
   simp only [zFP] at h;split at h
   ·rename_i e;cases h;rw [zH e];simp
   ·exact zQ _ (zBi h)
def zX2 (P:Program) (t:TypeId) (d:TypeDesc):Bool:=match d with
 | .struct fs => !P.stoodInHeld t && fs.toList.all fun f => f.name != "_"
 | _=>true
theorem zPb {t : TypeId} {d : TypeDesc} (h : zX2 P t d = true) : ∀ fs, d = .struct fs → P.stoodInHeld t = false ∧ ∀ f ∈ fs.toList, f.name ≠ "_" := by
 rintro fs rfl;simp only [zX2,zC,zbB,zJ,bne_iff_ne,ne_eq] at h;exact h
def zJX (P:Program):List (Nat×TI)->Prop
 | []=>True
 | x::r=>zOv P x.1 x.2/\zJX P r
theorem zJX.cons {t:Nat} {ti:TI} {r:List (Nat×TI)} (h1:P.underlying t=some ti.desc) (h2:(P.info? t).map (fun i=>(i.size,i.bytes,i.zero.map fun z=>z.cells.toList))=some (ti.size,ti.bytes,some ti.zl))
 (h3:ti.zl.all zHS=true) (h4:ti.zl.length=ti.size) (h5:zX2 P t ti.desc=true) (h:zJX P r):zJX P ((t,ti)::r):=⟨⟨h1,h2,h3,h4,zPb h5⟩,h⟩
theorem zJX.mem: ∀ {l:List (Nat×TI)},zJX P l->∀ x∈l,zOv P x.1 x.2
 | _::_,h,x,hx=>by
   cases zT.1 hx with
   | inl e=>subst e;exact h.1
   | inr e=>exact zJX.mem h.2 x e
theorem z1F (h:zJX P T.ty):zAA P T:=fun _ _ e=>h.mem _ (zBi e)
theorem zYN (h:(T.ty.all fun x=>zAE x.2.desc|| x.2.size==1)=true):zHM T:=fun t ti e hn=>by
 have:=zJ.1 h _ (zBi e);simpa [hn] using this
def zIG:List (Nat×TI)->Prop
 | []=>True
 | x::r=>(∀ e,x.2.ety=some e->x.2.zl=e.zeroVals/\x.2.size=e.size)/\zIG r
theorem zIG.mem: ∀ {l:List (Nat×TI)},zIG l->∀ x∈l,∀ e,x.2.ety=some e->x.2.zl=e.zeroVals/\x.2.size=e.size
 | _::_,h,x,hx=>by
   cases zT.1 hx with
   | inl e=>subst e;exact h.1
   | inr e=>exact zIG.mem h.2 x e
theorem zYe (h:zIG T.ty):zGz T:=fun _ _ e=>h.mem _ (zBi e)
theorem zRt {ti:TI} {e':ETy} (h:ti.ety=some e') (hz:ti.zl=e'.zeroVals) (hs:ti.size=e'.size): ∀ e,ti.ety=some e->ti.zl=e.zeroVals/\ti.size=e.size:=fun e he=>by
 rw [h] at he;cases he;exact ⟨hz,hs⟩
theorem z1a {ti:TI} (h:ti.ety=none): ∀ e,ti.ety=some e->ti.zl=e.zeroVals/\ti.size=e.size:=fun e he=>by rw [h] at he;cases he
def zIW (P:Program) (T:Tab):List (Nat×TI)->Prop
 | []=>True
 | x::r=>(∀ kt u,x.2.desc= .map kt u->∀ ki ui k e,T.info kt=some ki->T.info u=some ui->ki.ety=some k->ui.ety=some e->zFC P kt u k e)/\zIW P T r
theorem zIW.mem: ∀ {l:List (Nat×TI)},zIW P T l->∀ x∈l,∀ kt u,x.2.desc= .map kt u->∀ ki ui k e,T.info kt=some ki->T.info u=some ui->ki.ety=some k->ui.ety=some e->zFC P kt u k e
 | _::_,h,x,hx=>by
   cases zT.1 hx with
   | inl e=>subst e;exact h.1
   | inr e=>exact zIW.mem h.2 x e
theorem zWn (h:zIW P T T.ty):zSE P T:=fun t kt u hd=>by
 unfold Tab.desc at hd;cases e:zFP T.ty t with
 | none=>simp [e] at hd
 | some ti=>simp only [e] at hd;exact h.mem _ (zBi e) kt u hd
def z6k:TypeDesc->Bool
 | .map _ _=>true
 | _=>false
theorem z4s {d:TypeDesc} (h:z6k d=false) {Q:Nat->Nat->Prop} : ∀ kt u,d= .map kt u->Q kt u:=fun kt u e=>by subst e;cases h
theorem zI2 {kt u:TypeId} {ki ui:TI} {k e:ETy} (h1:T.info kt=some ki) (h2:T.info u=some ui) (h3:ki.ety=some k) (h4:ui.ety=some e) (hm:zFC P kt u k e) {d:TypeDesc} (hd:d= .map kt u) :
 ∀ kt u,d= .map kt u->∀ ki ui k e,T.info kt=some ki->T.info u=some ui->ki.ety=some k->ui.ety=some e->zFC P kt u k e:=by
 intro kt' u' hd' ki' ui' k' e' g1 g2 g3 g4;rw [hd] at hd';cases hd';rw [h1] at g1;cases g1;rw [h2] at g2;cases g2;rw [h3] at g3;cases g3;rw [h4] at g4;cases g4;exact hm
def zON (P:Program):List (Nat×(List AV->Option Res))->Prop
 | []=>True
 | x :: r => ((∀ args r, x.2 args = some r → zCn P x.1 args r) ∧ ∃ fn, P.funcs[x.1]? = some fn ∧ (fn.name == "runtime.NumGoroutine") = false ∧ fn.body.isNone = false) ∧ zON P r
theorem zON.mem : ∀ {l : List (Nat × (List AV → Option Res))}, zON P l → ∀ x ∈ l, (∀ args r, x.2 args = some r → zCn P x.1 args r) ∧ ∃ fn, P.funcs[x.1]? = some fn ∧ (fn.name == "runtime.NumGoroutine") = false ∧ fn.body.isNone = false
 | _::_,h,x,hx=>by
   cases zT.1 hx with
   | inl e=>subst e;exact h.1
   | inr e=>exact zON.mem h.2 x e
theorem zZc (h:zON P T.fn):z4E P T:=⟨fun _ _ e=>(h.mem _ (zBi e)).1,fun _ _ e=>(h.mem _ (zBi e)).2⟩
def z9h (P:Program) (f:FuncId):FrE->Prop
 | .res c=> ∀ args r,c args=some r->zCv P f args r
 | .run h=>zJM P f h
def zQO (P:Program):List (Nat×FrE)->Prop
 | []=>True
 | x :: r => (z9h P x.1 x.2 ∧ ∃ fn, P.funcs[x.1]? = some fn ∧ (fn.name == "runtime.NumGoroutine") = false ∧ fn.body.isNone = false) ∧ zQO P r
theorem zQO.mem : ∀ {l : List (Nat × FrE)}, zQO P l → ∀ x ∈ l, z9h P x.1 x.2 ∧ ∃ fn, P.funcs[x.1]? = some fn ∧ (fn.name == "runtime.NumGoroutine") = false ∧ fn.body.isNone = false
 | _::_,h,x,hx=>by
   cases zT.1 hx with
   | inl e=>subst e;exact h.1
   | inr e=>exact zQO.mem h.2 x e
theorem z17 (h:zQO P T.fr):z5B P T:=⟨fun _ _ e=>(h.mem _ (zBi e)).1,fun _ _ e=>(h.mem _ (zBi e)).1,fun _ _ e=>(h.mem _ (zBi e)).2⟩
theorem zZi {ty:List (Nat×TI)} (h1:zJX P ty) (h2:(ty.all fun x=>zAE x.2.desc|| x.2.size==1)=true) (h3:zIG ty) (h4: ∀ fn fr,zIW P ⟨ty,fn,fr⟩ ty) (h5:P.follows .mixedOrders=true)
 {fn:List (Nat×(List AV->Option Res))} {fr:List (Nat×FrE)} (hf:zON P fn) (hr:zQO P fr):jM P ⟨ty,fn,fr⟩ :=
 ⟨z1F h1,zYN h2,zYe h3,zZc hf,z17 hr,h5,zWn (h4 fn fr)⟩
def zLg (fn:Func) (m:Nat):Bool :=
 match fn.body with
 | some c=>codeOk fn.ntmps c&&Nat.ble m fn.ntmps
 | _=>false
theorem qL (R:jM P T) {f:FuncId} {fn:Func} (hf:P.funcs[f]? =some fn) {args:List AV} (hchk:zLg fn args.length=true) {q:Option Prop} {u:AV} (h:zBl args->Opt q->zAG T fn args (fun v=>v=u)):zCn P f args (none,q,u):=by
 unfold zLg at hchk;split at hchk
 ·rename_i c hc;simp only [zC] at hchk;exact z94 R hf hc hchk.1 (zU hchk.2) h
 ·cases hchk
theorem zDk (R:jM P T) {f:FuncId} {fn:Func} (hf:P.funcs[f]? =some fn) {args:List AV} (hchk:zLg fn args.length=true) {q:Option Prop} {u:AV} {us:List Ob} (h:zBl args->Opt q->zFB T fn args (fun v obs=>v=u/\obs=us)):zCv P f args (none,q,u,us):=by
 unfold zLg at hchk;split at hchk
 ·rename_i c hc;simp only [zC] at hchk;exact z6o R hf hc hchk.1 (zU hchk.2) h
 ·cases hchk
def zDM (P : Program) (f : Nat) (c : List AV → Option zKQ) : Prop := (∀ args r, c args = some r → zCv P f args r) ∧ ∃ fn, P.funcs[f]? = some fn ∧ (fn.name == "runtime.NumGoroutine") = false ∧ fn.body.isNone = false
theorem y9.own {i s m n:Nat} (h:m=n):y9 (.s (.own i s m)) (.s (.own i s n)):=y9.intro (by rw [h])
theorem y9.ownS {i s s' m n:Nat} (hs:s=s') (h:m=n):y9 (.s (.own i s m)) (.s (.own i s' n)):=y9.intro (by rw [hs,h])
end
def zHs:Code->Nat
 | .region k _ _=>k
 | .seq a _=>zHs a
 | .block _ c=>zHs c
 | .cond _ a _=>zHs a
 | _=>1000000
theorem zdg {T:Tab} {c:Code} {K:Exit->St->Prop} {st:St} {Q:Prop} (k:Nat) (_:zHs c=k) (h:Or (∃ n,rounds (zA8 T c) K n st) Q):Or (∃ n,rounds (zA8 T c) K n st) Q:=h
theorem qN {q k:Prop} (h':k) (h:q:=by first|rfl|omega|(simp only [yP] at *;omega)):zMk q k:=zMk.intro h h'
theorem qH {q k:Prop} (h:yJ q) (h':k):zMk q k:=zMk.intro (yJ.out h) h'
theorem qG {p k:Prop} (h:p->k):zPL p k:=zPL.intro h
theorem qB {p q:Prop} (h:p) (h':q):z01 p q:=z01.intro h h'
theorem qa {a b:Bool} {x y:Prop} (h:BIf a (BIf b x y) y):BIf (a&&b) x y:=BIf.and h
theorem qo {a b:Bool} {x y:Prop} (h:BIf a x (BIf b x y)):BIf (a|| b) x y:=BIf.or h
theorem qe {α:Type} [BEq α] [LawfulBEq α] {a b:α} {x y:Prop} (h1:a=b->x) (h2:a≠b->y):BIf (a==b) x y:=BIf.eqi h1 h2
theorem qn {α:Type} [BEq α] [LawfulBEq α] {a b:α} {x y:Prop} (h1:a≠b->x) (h2:a=b->y):BIf (a != b) x y:=BIf.nei h1 h2
theorem qd {p x y:Prop} [Decidable p] (h1:p->x) (h2: ¬p->y):BIf (decide p) x y:=BIf.dec h1 h2
theorem qt {b:Bool} {x y:Prop} (h:BIf b y x):BIf (!b) x y:=BIf.nt h
theorem qE {a b:AV} {q:Prop} (h:y9 a b) (h':q):a=b/\q:=zA (y9.out h) h'
theorem qO {a b:Ob} {q:Prop} (h:jL a b) (h':q):some a=some b/\q:=zA (jL.out h) h'
theorem qK {b:Bool} {p:Prop} (h:b=true) (h':p):zHU b p:=zHU.intro h h'
theorem qs {a b:List Ob} (h:zBy a b):a=b:=zBy.out h
theorem qr {a b:Prop} (h:zId a b):a\/b:=zId.out h
theorem qq {a b:AV} (h:y9 a b):a=b:=y9.out h
theorem qh {p:Prop} (h:p):yJ p:=yJ.intro h
theorem gE {α:Type _} {l:List α} {i:Nat} (h:i<l.length):l[i]? =some l[i]:=zG h
theorem gdE {α:Type _} (l:List α) (i:Nat) (a:α):l.getD i a=(l[i]?).getD a:=zR
theorem qz1 {k:IntKind} {m n:Int} (h:m=n):y9 (.s (.int k m)) (.s (.int k n)):=y9.int h
theorem qz2 {m n:Bool} (h:m=n):y9 (.s (.bool m)) (.s (.bool n)):=y9.bool h
theorem qz3 {e:ETy} {m n:List e.T} (h:m=n):y9 (.s (.sl e m)) (.s (.sl e n)):=y9.sl h
theorem qz4 {i s m n:Nat} (h:m=n):y9 (.s (.own i s m)) (.s (.own i s n)):=y9.own h
theorem qz5 {i s s' m n:Nat} (hs:s=s') (h:m=n):y9 (.s (.own i s m)) (.s (.own i s' n)):=y9.ownS hs h
theorem qz6 {e:ETy} {u:TypeId} {m n:List e.T} (h:m=n):jL (.row e u m) (.row e u n):=jL.row h
theorem qz7 {k v:ETy} {m n:List (k.T×v.T)} (h:m=n):jL (.map k v m) (.map k v n):=jL.map h
theorem qz8 {k e:ETy} {m n:List (k.T×List e.T)} (h:m=n):jL (.gmap k e m) (.gmap k e n):=jL.gmap h
theorem qz9 {e:ETy} {u:TypeId} {m n:List (List e.T)} (h:m=n):jL (.grow e u m) (.grow e u n):=jL.grow h
theorem qz0 {e:ETy} {u:TypeId} {m n:List e.T} (h:m=n):zBy [.row e u m] [.row e u n]:=zBy.row h
theorem qi {b:Bool} {p q:Prop} (h1:b=true->p) (h2:b=false->q):BIf b p q:=BIf.intro h1 h2
theorem zaB {T:Tab} {c:Code} {K:Exit->St->Prop} {F:(X:Type)->Spec X->St->X->Prop} {st:St} (k:Nat) (_:zHs c=k) {X:Type} (S:Spec X) (x0:X) (h1:yJ (S.inv x0)) (h2:z4m st.env (S.head st x0).env) (h3:zVX st.hp (S.head st x0).hp) (h: ∀ x,S.inv x->F X S st x)
 (hn:S.nils=[]:=by exact rfl) (hf:S.frz=[]:=by exact rfl) (h4:(zDW (S.head st x0).next (S.head st x0).env&&zGR (S.head st x0).next (S.head st x0).hp&&Nat.ble (S.head st x0).next st.next)=true:=by exact rfl) :
 (∃ n,rounds (zA8 T c) K n st)\/(∃ (X:Type) (S:Spec X),zHc T (zax (fun st=>(∃ x,S.inv x/\zOs st (S.head st x))/\∀ x,S.inv x->F X S st x) S.frz) S.nils st) :=
 .inr ⟨X,S,by rw [hn,hf];exact ⟨⟨x0,h1.out,h2,h3,h4⟩,h⟩⟩
theorem zaA {X:Type} {s st:St} {x:X} (S:Spec X) (y:X) (h:yJ (S.inv y)) (h1:z4m s.env (S.head st y).env) (h2:zVX s.hp (S.head st y).hp) (h3:yJ (S.mu y<S.mu x))
 (h4:(zDW (S.head st y).next (S.head st y).env&&zGR (S.head st y).next (S.head st y).hp&&Nat.ble (S.head st y).next s.next)=true:=by with_unfolding_all exact rfl): ∃ y,S.inv y/\zOs s (S.head st y)/\S.mu y<S.mu x :=
 ⟨y,h.out,⟨h1,h2,h4⟩,h3.out⟩
theorem qy {p q:Prop} (h:q) (e:q->p:=by first|exact fun h=>qN h|exact qa|exact qo):p:=e h
theorem qw {p a b x y:Prop} (h1:a->x) (h2:b->y) (e:(a->x)->(b->y)->p:=by first|exact qe|exact qn|exact qd):p:=e h1 h2
theorem qu {p q:Prop} (h:q) (e:q->p:=by first|exact zA rfl|exact qq|exact qs|exact qK (by kernel_rfl)|exact qr):p:=e h
theorem qv {p q r:Prop} (h:q) (h':r) (e:q->r->p:=by first|exact qH|exact qB|exact qE|exact qO):p:=e h h'
theorem qz {p q:Prop} (h:q) (e:q->p:=by first|exact qz1|exact qz2|exact qz3|exact qz4|exact qz6|exact qz7|exact qz8|exact qz9|exact qz0):p:=e h
theorem qn0:(∀ (α:Type) (a:α),[a].length=1)/\(∀ n:Nat,((n:Int)).toNat=n)/\(∀ (α:Type) (a d:α) (l:List α),(a::l).getD 0 d=a)/\(∀ (α:Type) (a d:α) (l:List α) (n:Nat),(a::l).getD (n+1) d=l.getD n d)/\(∀ (α:Type) (d w:α),List.take 1 (List.drop 0 ((List.replicate 1 d).set 0 w))=[w])/\(∀ (α:Type) (w:α),List.take 1 (List.drop 0 [w])=[w])/\(∀ (α:Type) (d w:α),(List.replicate 1 d).set 0 w=[w])/\(∀ (α:Type) (l:List α),List.take l.length (List.drop 0 l)=l)/\(∀ n:Nat,0+n=n) :=
 ⟨fun _ _=>rfl,fun _=>rfl,fun _ _ _ _=>rfl,fun _ _ _ _ _=>rfl,fun _ _ _=>rfl,fun _ _=>rfl,fun _ _ _=>rfl,fun _ l=>by rw [zb6,zbK],zD⟩
theorem zaw {P : Program} {f : Nat} {c : List AV → Option zKQ} {fn : Func} (h : ∀ args r, c args = some r → zCv P f args r) (h2 : P.funcs[f]? = some fn) (h3 : (fn.name == "runtime.NumGoroutine") = false := by kernel_rfl) (h4 : fn.body.isNone = false := by kernel_rfl) : zDM P f c := ⟨h, fn, h2, h3, h4⟩
end Go.Vm
