/- A drawn region whose operations are calm or make a thing, each with a slot of its own: in any order it comes to the same. -/
import Derived.Test.YtlhoihabllompaaGreatVmCodetoVmFloat
set_option linter.unusedSimpArgs false
set_option linter.unusedVariables false
set_option maxHeartbeats 8000000
set_option maxRecDepth 100000
namespace Go.Vm
open Go.RowKit
section
variable {P:Program} {T:Tab} {B:Base} {w w':World} {σ:Sig} {β:yR} {st:St} {tmps:Array Value} {o:Oper} {ρ:Operand->Value}
def zMl (T:Tab) (op:Op) (ev:Operand->AV):Option (Option Prop×Ob×(Nat->AS)) :=
 match op with
 | .alloc t=>match T.info t with
   | some ti=>some (none,.flat t ti.zero,fun i=> .ptr i 0 0)
   | none=>none
 | .box t x=>match (ev x).flat with
   | some cs=>some (none,.flat t cs,fun i=> .ptr i 0 0)
   | none=>none
 | .makeMap t none=>match T.desc t with
   | .map k v=>match T.info k,T.info v with
     | some ki,some vi=>match ki.ety,vi.ety with
       | some ek,some (.sl e)=>some (none,.gmap ek e [],.omp)
       | some ek,some ev=>some (none,.map ek ev [],.omp)
       | _,_=>none
     | _,_=>none
   | _=>none
 | .makeSlice t l c=>match T.desc t,ev l,ev c with
   | .slice u,.s (.int .i64 n),.s (.int .i64 c)=>match T.info u with
     | some ui=>match ui.ety with
       | some (.sl e)=>match Nat.beq ui.bytes 0 with
         | false=>some (some (0<=n/\n<=c/\c*ui.bytes<=140737488355328),.grow e u (List.replicate n.toNat []),fun i=> .own i 0 n.toNat)
         | true=>none
       | some e=>match Nat.beq ui.bytes 0 with
         | false=>some (some (0<=n/\n<=c/\c*ui.bytes<=140737488355328),.row e u (List.replicate n.toNat e.dflt),fun i=> .own i 0 n.toNat)
         | true=>none
       | none=>none
     | none=>none
   | _,_,_=>none
 | _=>none
theorem zWF {ob:Ob} {ref:Nat->AS} {q0:Option Prop} (hm:zMl T o.op (y7 st.env)=some (q0,ob,ref)):zCG T o st=some (none,q0,st.mk' o.dst ob ref):=by
 obtain ⟨dst,op,type,pos,after,guard⟩:=o;change zMl T op (y7 st.env)=_ at hm;unfold zMl at hm;split at hm
 ·split at hm
  ·rename_i ti hti;cases hm;simp only [zCG,hti];rfl
  ·cases hm
 ·split at hm
  ·rename_i cs hcs;cases hm;simp only [zCG,hcs];rfl
  ·cases hm
 ·simp only [zCG,zGK];split at hm
  ·rename_i k v hd;split at hm
   ·rename_i ki vi h1 h2;simp only [hd,h1,h2];split at hm
    ·rename_i ek e h3 h4;cases hm;simp only [h3,h4];rfl
    ·rename_i ek ev hno h3 h4;cases hm;rw [h3,h4];split
     ·rename_i e1 e2;cases e1;cases e2;exact (hno _ rfl).elim
     ·rename_i e1 e2;cases e1;cases e2;rfl
     ·rename_i e1 e2;exact (e2 _ _ rfl rfl).elim
    ·cases hm
   ·cases hm
  ·cases hm
 ·simp only [zCG,zDF];split at hm
  ·rename_i u n c hd h1 h2;simp only [hd,h1,h2];split at hm
   ·rename_i ui hui;simp only [hui];split at hm
    ·rename_i e he;simp only [he];split at hm
     ·rename_i hb;cases hm;simp only [hb];rfl
     ·cases hm
    ·rename_i e hno he;rw [he];split at hm
     ·rename_i hb;cases hm;split
      ·rename_i e1;cases e1;exact (hno _ rfl).elim
      ·rename_i e1;cases e1;simp only [hb];rfl
      ·rename_i e1;cases e1
     ·cases hm
    ·cases hm
   ·cases hm
  ·cases hm
 ·cases hm
structure zYw (σ:Sig) (β:yR) (w w':World) (v:Value) (pl:Bk) (ob:Ob) (ref:Nat->AS):Prop where
 new:pl.b=w.heap.size
 old: ∀ k,k<w.heap.size->w'.heap[k]? =w.heap[k]?
 bel: ∀ n,n<=w.heap.size->Below n w w'
 at_: ∀ (β':yR) (id:Nat),β'[id]? =some (some pl)->(∀ a x,y5 σ β a x->y5 σ β' a x)->zAf σ β' w' id ob/\y5 σ β' (ref id) v
theorem zYw.alloc {o':Obj} {v:Value} {pl:Bk} {ob:Ob} {ref:Nat->AS} (hn:pl.b=w.heap.size)
 (h: ∀ (β':yR) (id:Nat),β'[id]? =some (some pl)->(∀ a x,y5 σ β a x->y5 σ β' a x)->zAf σ β' (w.alloc o') id ob/\y5 σ β' (ref id) v):zYw σ β w (w.alloc o') v pl ob ref :=
 ⟨hn,alloc_old w _,fun _ hb=>Below.alloc' w _ hb,h⟩
theorem zTF (hT:zAA P T) (hE:zGz T) {ev:Operand->AV} (hops: ∀ x∈o.op.operands,y6 σ β (ev x) (ρ x)) {ob:Ob} {ref:Nat->AS} {q:Option Prop} (hm:zMl T o.op ev=some (q,ob,ref)) (hq:Opt q) :
 ∃ v w' pl,(execOp ρ o).run P w= .ok (.value v) w'/\zYw σ β w w' v pl ob ref:=by
 obtain ⟨dst,op,type,pos,after,guard⟩:=o;change zMl T op ev=_ at hm;change ∀ x∈op.operands,_ at hops;unfold zMl at hm;split at hm
 ·rename_i t;split at hm
  ·rename_i ti hti;cases hm;obtain ⟨i,z,hi,hs,hb,hz,hzl⟩:=(hT _ _ hti).get;refine ⟨.pointer (some ⟨w.heap.size,0,none⟩),w.alloc (.cells z.cells t),⟨w.heap.size,0,ti.zero.length,ti.zero.length,1⟩,by simp [execOp,Instr.alloc,zeroValue,typeInfo,hi,hz,newVar,newRow],zYw.alloc rfl fun β' id hl hmono=>⟨⟨_,hl,rfl,rfl,rfl,rfl,_,Go.heap_alloc_new w _,?_⟩,⟨_,hl,by simp,by simp⟩⟩⟩;rw [hzl];exact zEe (hT _ _ hti).zok
  ·cases hm
 ·rename_i t x;split at hm
  ·rename_i cs hcs;cases hm;have ha:=zBC (hops x (by simp [Op.operands])) hcs;exact ⟨_,_,⟨w.heap.size,0,cs.length,cs.length,1⟩,by simp [execOp,Instr.box,newVar,newRow];rfl,zYw.alloc rfl fun β' id hl hmono=>⟨⟨_,hl,rfl,rfl,rfl,rfl,_,Go.heap_alloc_new w _,ha.mono hmono⟩,⟨_,hl,by simp,by simp⟩⟩⟩
  ·cases hm
 ·rename_i t
  have fin: ∀ {ob:Ob},(∀ (β':yR) (id:Nat),β'[id]? =some (some ⟨w.heap.size,0,0,0,0⟩)->zAf σ β' (w.alloc (.map #[] 0)) id ob)->∃ v w' pl,(execOp ρ ⟨dst,.makeMap t none,type,pos,after,guard⟩).run P w= .ok (.value v) w'/\zYw σ β w w' v pl ob .omp:=fun hob =>
   ⟨.map (some w.heap.size),w.alloc (.map #[] 0),⟨w.heap.size,0,0,0,0⟩,by simp [execOp,Instr.makeMap],zYw.alloc rfl fun β' id hl _=>⟨hob β' id hl,⟨_,hl,rfl,rfl⟩⟩⟩
  split at hm
  ·split at hm
   ·split at hm
    ·cases hm;exact fin fun β' id hl=>⟨by simp,_,#[],0,hl,(MapKept.heap_alloc w _).1,rfl,fun i x hx=>by simp at hx,⟨by simp,by simp⟩,by simp [MapKept.Stamped]⟩
    ·cases hm;exact fin fun β' id hl=>⟨by simp,_,#[],0,hl,(MapKept.heap_alloc w _).1,⟨rfl,MapKept.stamped_empty 0⟩,fun i x hx=>by simp at hx⟩
    ·cases hm
   ·cases hm
  ·cases hm
 ·rename_i t l c;split at hm
  ·rename_i u n cc hdc hl hc;split at hm
   ·rename_i ui hui
    have common: ∀ {e:ETy},ui.ety=some e->Nat.beq ui.bytes 0=false->(0<=n/\n<=cc/\cc*ui.bytes<=140737488355328)->
     ∃ (i:TypeInfo) (z:Value),i.size=ui.size/\z.cells=ui.zl.toArray/\ui.zl=e.zeroVals/\ui.size=e.size/\cc<=140737488355328/\
       (execOp ρ ⟨dst,.makeSlice t l c,type,pos,after,guard⟩).run P w= .ok (.value (.slice (some ⟨w.heap.size,0,none⟩) n.toNat cc.toNat)) (w.alloc (.cells (madeCells z.cells (cc.toNat*i.size)) u)):=by
     intro e hety hbz ⟨h0,h1,h2⟩;obtain ⟨hz,hs⟩:=hE _ _ hui _ hety;obtain ⟨i,z,hi,hsi,hbi,hzz,hzl⟩:=(hT _ _ hui).get;have e1:=hops l (by simp [Op.operands]);have e2:=hops c (by simp [Op.operands]);rw [hl] at e1;rw [hc] at e2;obtain ⟨e1,_⟩:=e1;obtain ⟨e2,hk2⟩:=e2;have hbne:ui.bytes≠0:=by intro e;rw [e] at hbz;cases hbz
     have hcb:cc<=140737488355328:=by
      have:cc*1<=cc*(ui.bytes:Int):=Int.mul_le_mul_of_nonneg_left (by omega) (by omega);omega
     have hzs:z.cells=ui.zl.toArray:=by rw [<- hzl]
     have hrun:=run_make (P:=P) w t u i z (hT.und hdc (by simp)) hi hzz .i64 .i64 n cc h0 h1 (by rw [hbi,Int.mul_comm];omega) (by omega);exact ⟨i,z,hsi,hzs,hz,hs,hcb,by simp [execOp,e1,e2,hrun]⟩
    split at hm
    ·rename_i e hety;split at hm
     ·rename_i hbz;cases hm;obtain ⟨i,z,hsi,hzs,hz,hs,hcb,hrun⟩:=common hety hbz hq;obtain ⟨h0,h1,h2⟩:=hq;have hs1:ui.size=1:=hs;have hcs:(madeCells z.cells (cc.toNat*i.size)).size=cc.toNat:=by rw [size_madeCells,hsi,hs1,Nat.mul_one]
      have hcc: ∀ v∈(madeCells z.cells (cc.toNat*i.size)).toList,v= .slice none 0 0:=by
       intro v hv;rw [hzs,hz] at hv;simp only [madeCells,Array.toList_map,yC] at hv;obtain ⟨k,_,rfl⟩:=hv;simp [ETy.zeroVals,Nat.mod_one]
      refine ⟨_,_,⟨w.heap.size,0,1,cc.toNat,n.toNat⟩,hrun,zYw.alloc rfl fun β' id hl _=>⟨⟨by simp;omega,_,hl,rfl,by simp,by simp;omega,_,Go.heap_alloc_new w _,hcs,fun i' x hx=> ?_,fun v hv=> .inl (hcc v (List.mem_of_mem_drop (List.mem_of_mem_take hv))),?_⟩,?_⟩⟩
      ·have hi:=(zK.1 hx).1;simp only [List.length_replicate] at hi;rw [List.getElem?_replicate,if_pos hi] at hx;cases hx;refine ⟨.slice none 0 0,⟨none,0,rfl,by simp,by simp,fun h=>(h rfl).elim⟩,?_⟩;have hlt:i'<(madeCells z.cells (cc.toNat*i.size)).toList.length:=by rw [Array.length_toList,hcs];omega
       rw [zD,<- zM,zG hlt,hcc _ (yQ _)]
      ·refine List.Pairwise.imp_of_mem (R:=fun _ _=>True) ?_ (List.pairwise_of_forall fun _ _=>trivial);intro v v' hv _ _ b o' n' c' b2 o2 n2 c2 e1;rw [hcc v (List.mem_of_mem_drop (List.mem_of_mem_take hv))] at e1;cases e1
      ·simp only [y5,hl];exact ⟨_,cc.toNat,rfl,by omega,.inr (by simp),by simp,by simp⟩
     ·cases hm
    ·rename_i e hno hety;split at hm
     ·rename_i hbz;cases hm;obtain ⟨i,z,hsi,hzs,hz,hs,hcb,hrun⟩:=common hety hbz hq;obtain ⟨h0,h1,h2⟩:=hq;refine ⟨_,_,⟨w.heap.size,0,e.size,cc.toNat*e.size,n.toNat⟩,hrun,zYw.alloc rfl fun β' id hl _=>⟨?_,?_⟩⟩
      ·refine ⟨by simp;omega,?_⟩;simp only [hl];refine ⟨trivial,by simp,by rw [zD];exact Nat.mul_le_mul_right _ (by omega),_,Go.heap_alloc_new w _,by rw [size_madeCells,hsi,hs],fun i' x hx=> ?_⟩;have hr:=zJR (σ:=σ) hz cc.toNat;rw [<- hs,<- hsi,<- hzs] at hr;have hi':=(zK.1 hx).1;simp at hi'
       have hx':(List.replicate cc.toNat e.dflt)[i']? =some x:=by
        rw [List.getElem?_replicate,if_pos (by omega)] at hx ⊢;exact hx
       obtain ⟨d,f1,f2⟩:=hr i' x hx';exact ⟨d,f1,fun j v hj=>by rw [<- zM];exact f2 j v hj⟩
      ·simp only [y5,hl];exact ⟨_,cc.toNat,rfl,by omega,.inr (by simp),by simp,by simp⟩
     ·cases hm
    ·cases hm
   ·cases hm
  ·cases hm
 ·cases hm
theorem GG.reviveG (h:GG B σ β st tmps w) {id:Nat} (hdd:β[id]? =some dead) {d:Option Tmp} (hd:zBE d tmps) {v:Value} {pl:Bk} {ob:Ob} {ref:Nat->AS} (hm:zYw σ β w w' v pl ob ref) :
 GG B σ (β.set id (some pl)) (({st with hp:=(id,ob)::st.hp} :St).put d (.s (ref id))) (zHa tmps d v) w':=by
 have hid:id<β.length:=(zK.1 hdd).1;have hlast:(β.set id (some pl))[id]? =some (some pl):=by simp [hid]
 have hold: ∀ {i:Nat},i≠id->(β.set id (some pl))[i]? =β[i]? :=fun hi=>List.getElem?_set_ne (Ne.symm hi);have hsig: ∀ b o,σ b=some o->b<w.heap.size:=fun b o e=>h.mem.ag.lt e;have hw:=hm.old;obtain ⟨hob,hrv⟩:=hm.at_ _ _ hlast fun _ _=>y5.revive hdd _;refine GG.put (st:= {st with hp:=(id,ob)::st.hp}) ⟨⟨fun b o e=> ?_,fun id' ob' hi=> ?_⟩,fun t=>(h.env t).map fun _ _=>y5.revive hdd _,by simp [h.len],fun id' ob' p hi hp=> ?_,h.bel.trans (hm.bel _ h.bel.size),h.grew⟩ hd hrv
 ·rw [hw b (hsig b o e)];exact h.mem.ag _ _ e
 ·simp only [yL] at hi;split at hi
  ·rename_i e;subst e;cases hi;exact hob
  ·rename_i hne;exact (h.mem.ob _ _ hi).revive hdd (Ne.symm hne) _ (fun p hp=>hw _ ((h.mem.ob _ _ hi).lt hp)) fun b o e=>hw b (hsig b o e)
 ·simp only [yL] at hi;split at hi
  ·rename_i e;subst e;rw [hlast] at hp;cases hp;refine ⟨?_,by rw [hm.new];exact h.bel.size,fun id2 ob2 p2 hne hi2 hp2=> ?_⟩
   ·rw [hm.new];cases e:σ w.heap.size with
    | none=>rfl
    | some o=>have:=hsig _ _ e;omega
   ·simp only [yL] at hi2;rw [if_neg (Ne.symm hne)] at hi2;rw [hold hne] at hp2;have:=(h.mem.ob _ _ hi2).lt hp2;rw [hm.new];omega
  ·rename_i hne;rw [hold (Ne.symm hne)] at hp;obtain ⟨s1,s2,s3⟩:=h.sep _ _ _ hi hp;refine ⟨s1,s2,fun id2 ob2 p2 hne2 hi2 hp2=> ?_⟩;simp only [yL] at hi2;split at hi2
   ·rename_i e;subst e;rw [hlast] at hp2;cases hp2;have:=(h.mem.ob _ _ hi).lt hp;rw [hm.new];omega
   ·rename_i hne';rw [hold (Ne.symm hne')] at hp2;exact s3 _ _ _ hne2 hi2 hp2
theorem GG.reviveQ (h:GG B σ β st tmps w) {id:Nat} (hdd:β[id]? =some dead) {e:ETy} {u:TypeId} {xs:List e.T} {q:Option Bk} (ho:zAf σ [q] w 0 (.row e u xs))
 (hs: ∀ p,q=some p->σ p.b=none/\B.w.heap.size<=p.b/\∀ id ob p',hget st.hp id=some ob->β[id]? =some (some p')->p'.b≠p.b) :
 GG B σ (β.set id q) {st with hp:=(id,.row e u xs)::st.hp} tmps w:=by
 have hid:id<β.length:=(zK.1 hdd).1;have hlast:(β.set id q)[id]? =some q:=by simp [hid]
 have hold: ∀ {i:Nat},i≠id->(β.set id q)[i]? =β[i]? :=fun hi=>List.getElem?_set_ne (Ne.symm hi);refine ⟨⟨h.mem.ag,fun id' ob' hi=> ?_⟩,fun t=>(h.env t).map fun _ _=>y5.revive hdd _,by simp [h.len],fun id' ob' p hi hp=> ?_,h.bel,h.grew⟩
 ·simp only [yL] at hi;split at hi
  ·rename_i e;subst e;cases hi;exact ho.move (by rw [hlast];rfl)
  ·rename_i hne;exact (h.mem.ob _ _ hi).revive hdd (Ne.symm hne) _ (fun p hp=>rfl) fun b o e=>rfl
 ·simp only [yL] at hi;split at hi
  ·rename_i e;subst e;rw [hlast] at hp;have hq:=Option.some.inj hp;obtain ⟨s1,s2,s3⟩:=hs p hq;refine ⟨s1,s2,fun id2 ob2 p2 hne hi2 hp2=> ?_⟩;simp only [yL] at hi2;rw [if_neg (Ne.symm hne)] at hi2;rw [hold hne] at hp2;exact s3 _ _ _ hi2 hp2
  ·rename_i hne;rw [hold (Ne.symm hne)] at hp;obtain ⟨s1,s2,s3⟩:=h.sep _ _ _ hi hp;refine ⟨s1,s2,fun id2 ob2 p2 hne2 hi2 hp2=> ?_⟩;simp only [yL] at hi2;split at hi2
   ·rename_i e;subst e;rw [hlast] at hp2;exact fun e=>(hs p2 (Option.some.inj hp2)).2.2 _ _ _ hi hp e.symm
   ·rename_i hne';rw [hold (Ne.symm hne')] at hp2;exact s3 _ _ _ hne2 hi2 hp2
theorem zPR {T:Tab} {hp:jJ} {a:AV} (h:a.clear=true):a.viewT T hp=a:=by
 have one: ∀ a:AS,a.clear=true->Vm.viewT T hp a=a:=fun a h=>by cases a<;>first|rfl|cases h
 cases a with
 | s a=>exact congrArg AV.s (one a h)
 | agg l =>
   have all: ∀ l:List AS,l.all AS.clear=true->l.map (Vm.viewT T hp)=l:=fun l=>by
    induction l with
    | nil=>exact fun _=>rfl
    | cons a l ih =>
      intro h;simp only [List.all_cons,zC] at h;rw [List.map_cons,one a h.1,ih h.2]
   exact congrArg AV.agg (all l h)
 | tup l=>cases h
theorem zJB {T:Tab} {hp:jJ} : ∀ {l:List AV},l.all AV.clear=true->l.map (AV.viewT T hp)=l
 | [],_=>rfl
 | a::l,h=>by
   simp only [List.all_cons,zC] at h;rw [List.map_cons,zPR h.1,zJB h.2]
theorem zKi {hp:jJ} : ∀ {l:List AV} {ds:List Value},l.all AV.clear=true->jH σ β l ds->jH σ [] l ds
 | [],[],_,_=>trivial
 | [],_::_,_,h=>h.elim
 | _::_,[],_,h=>h.elim
 | a::l,d::ds,h,hr=>by
   simp only [List.all_cons,zC] at h;exact ⟨(AV.clear_repT (T:=⟨[],[],[]⟩) (hp:=hp) h.1 hr.1).2,zKi (hp:=hp) h.2 hr.2⟩
theorem zIQ {op:Op} {ev:Operand->AV} {q:Option Prop} {ob:Ob} {ref:Nat->AS} (hm:zFK T op ev=some (q,ob,ref)) :
 ∃ c f g n,∃ (e:ETy) (u:TypeId) (xs:List e.T),op= .call c/\c.callee= .value (.func f)/\zFP T.fr f=some (.res g)/\(c.args.toList.map ev).all AV.clear=true/\g (c.args.toList.map ev)=some (none,q,.s (.own 0 0 n),[.row e u xs])/\ob= .row e u xs/\ref=fun i=> .own i 0 n:=by
 unfold zFK at hm;split at hm
 case h_2=>cases hm
 rename_i c;split at hm
 case h_2=>cases hm
 rename_i f hf;split at hm
 case h_2=>cases hm
 rename_i g hg;split at hm
 case h_2=>cases hm
 rename_i n q' e u xs h1 h2;cases hm;exact ⟨_,_,_,_,_,_,_,rfl,hf,hg,h1,h2,rfl,rfl⟩
theorem zOz {ob:Ob} {ref:Nat->AS} {q0:Option Prop} (hm:zFK T o.op (y7 st.env)=some (q0,ob,ref)):zCG T o st=some (none,q0,st.mk' o.dst ob ref):=by
 obtain ⟨c,f,g,n,e,u,xs,h1,h2,h3,h4,h5,rfl,rfl⟩:=zIQ hm;obtain ⟨dst,op,type,pos,after,guard⟩:=o;obtain ⟨callee,args,ts⟩:=c;change op=_ at h1;change callee=_ at h2;subst h1;subst h2;change (args.toList.map (y7 st.env)).all AV.clear=true at h4;change g (args.toList.map (y7 st.env))=_ at h5;simp only [zCG,zAU];simp only [zQl,h3,zJB h4,h5,h4,Bool.true_or];rfl
variable {N:Nat} {a:Act} {r:Option Nat} {n:Nat} {ops:Array Oper} {Q:Exit->Act->World->Prop}
def zFY (T:Tab) (o:Oper) (s s':St):Prop :=
 (j0 o.op=true/\∃ p q v,jO T o.op (y7 s.env) s.hp=some (p,q,v)/\Opt q/\s'=s.put o.dst v)\/
 (z0E o.op=true/\∃ q ob ref,zMl T o.op (y7 s.env)=some (q,ob,ref)/\Opt q/\s'=s.mk' o.dst ob ref)\/
 (∃ q ob ref,zFK T o.op (y7 s.env)=some (q,ob,ref)/\Opt q/\s'=s.mk' o.dst ob ref)
theorem zWr {s s':St} {p q:Option Prop} (hm:z0E o.op=true) (h:zBr T true o s=some (p,q,s')): ∃ ob ref,zMl T o.op (y7 s.env)=some (q,ob,ref)/\p=none/\s'=s.mk' o.dst ob ref:=by
 have hcs:jY T o s=none:=by
  unfold jY
  have:jO T o.op (y7 s.env) s.hp=none:=by
   obtain ⟨dst,op,type,pos,after,guard⟩:=o;cases op<;>first|rfl|cases hm
  rw [this]
 unfold zBr at h;simp only [hcs] at h;have h:=zKT h;cases hk:zMl T o.op (y7 s.env) with
 | some x =>
   obtain ⟨q0,ob,ref⟩:=x;rw [zWF hk] at h;cases h;exact ⟨ob,ref,rfl,rfl,rfl⟩
 | none =>
   exfalso;obtain ⟨dst,op,type,pos,after,guard⟩:=o;change z0E op=true at hm;change zMl T op (y7 s.env)=none at hk;cases op
   case alloc t _ =>
    simp only [zCG] at h;simp only [zMl] at hk;split at h
    ·rename_i ti hti;simp [hti] at hk
    ·cases h
   case box t x _ =>
    simp only [zCG] at h;simp only [zMl] at hk;split at h
    ·rename_i cs hcs;simp [hcs] at hk
    ·cases h
   case makeMap t c _ =>
    cases c with
    | some c=>cases hm
    | none =>
      simp only [zCG] at h;simp only [zMl] at hk;simp only [zGK] at h;split at h
      ·rename_i k v hd;simp only [hd] at hk;split at h
       ·rename_i ki vi h1 h2;simp only [h1,h2] at hk;split at h
        ·rename_i ek e h3 h4;simp [h3,h4] at hk
        ·rename_i ek ev hno h3 h4;rw [h3,h4] at hk;split at hk
         ·cases hk
         ·cases hk
         ·rename_i hx;exact hx _ _ rfl rfl
        ·cases h
       ·cases h
      ·cases h
   case makeSlice t l c _ =>
    simp only [zCG] at h;simp only [zMl] at hk;simp only [zDF] at h;split at h
    ·rename_i u n cc hd h1 h2;simp only [hd,h1,h2] at hk;split at h
     ·rename_i ui hui;simp only [hui] at hk;split at h
      ·rename_i e he;simp only [he] at hk;split at h
       ·rename_i hb;simp [hb] at hk
       ·cases h
      ·rename_i e hno he;rw [he] at hk;split at h
       ·rename_i hb;split at hk
        ·simp [hb] at hk
        ·simp [hb] at hk
        ·rename_i e1;cases e1
       ·cases h
      ·cases h
     ·cases h
    ·cases h
   all_goals cases hm
theorem zNB (R:jM P T) {K:St->Prop} (rest:List Oper): ∀ (l:List Oper) {st:St} {a:Act} {w:World},(∀ o∈l,yT N o=true/\o.guard=none/\(j0 o.op|| z0E o.op)=true)->GA B N st a w->zAN T true ops (l++rest) st K->
 ∃ S:Nat->St,S 0=st/\(∀ i o,l[i]? =some o->zFY T o (S i) (S (i+1)))/\(∀ i,i<=l.length->∃ a w,GA B N (S i) a w)/\zAN T true ops rest (S l.length) K
 | [],st,a,w,_,h,hk=>⟨fun _=>st,rfl,fun i o e=>by simp at e,fun _ _=>⟨a,w,h⟩,hk⟩
 | o :: l, st,a,w,hall,h,hk=>by
   obtain ⟨ho,hg,hc⟩:=hall o (by simp);simp only [List.cons_append,zAN,hg,aop,zSI,St.force_eq] at hk
   have go : ∀ {p q:Option Prop} {st':St},zBr T true o st=some (p,q,st')->Opt q->zAN T true ops (l++rest) st' K->
    ∃ S:Nat->St,S 0=st/\(∀ i o',(o::l)[i]? =some o'->zFY T o' (S i) (S (i+1)))/\(∀ i,i<=(o::l).length->∃ a w,GA B N (S i) a w)/\zAN T true ops rest (S (o::l).length) K:=by
    intro p q st' hs hq hk;obtain ⟨a',w',h'⟩:=zD2 (r:=none) (n:=0) ((zCq R h ho hs).2 hq (K:=fun a' w'=>GA B N st' a' w') fun _ _ hh=>hh);obtain ⟨S,s0,s1,s2,s3⟩:=zNB R rest l (fun o' ho'=>hall o' (by simp [ho'])) h' hk
    have step:zFY T o st st':=by
     rw [Bool.or_eq_true] at hc;rcases hc with hc|hc
     ·refine .inl ⟨hc,?_⟩;unfold zBr at hs;simp only at hs;cases hcs:jY T o st with
      | none=>rw [hcs] at hs;simp only at hs;rw [zFo hc hcs] at hs;cases hs
      | some res =>
        rw [hcs] at hs;simp only at hs;cases hs;unfold jY at hcs;split at hcs
        ·rename_i p' q' v hv;cases hcs;exact ⟨_,_,_,hv,hq,rfl⟩
        ·cases hcs
     ·obtain ⟨ob,ref,e1,e2,e3⟩:=zWr hc hs;exact .inr (.inl ⟨hc,q,ob,ref,e1,hq,e3⟩)
    refine ⟨fun i=>match i with|0=>st|i+1=>S i,rfl,fun i o' e=> ?_,fun i hi=> ?_,s3⟩
    ·cases i with
     | zero=>simp at e;subst e;show zFY T o st (S 0);rw [s0];exact step
     | succ i=>exact s1 i o' (by simpa using e)
    ·cases i with
     | zero=>exact ⟨a,w,h⟩
     | succ i=>exact s2 i (by simpa using hi)
   split at hk
   ·rename_i st' hs;exact go hs trivial hk
   ·rename_i p st' hs;exact go hs trivial (hk.out (zCq (r:=none) (n:=0) R h ho hs).1)
   ·rename_i q st' hs;obtain ⟨k1,k2⟩:=hk.out;exact go hs k1 k2
   ·rename_i p q st' hs;obtain ⟨k1,k2⟩:=(hk.out (zCq (r:=none) (n:=0) R h ho hs).1).out;exact go hs k1 k2
   ·exact hk.elim
theorem zKM (R:jM P T) {K:St->Prop} (rest:List Oper): ∀ (l:List Oper) {st:St} {a:Act} {w:World},(∀ o∈l,yT N o=true/\o.guard=none/\(j0 o.op|| z0E o.op)=true)->GA B N st a w->zIl T ops l.length (l++rest) st K->
 ∃ S:Nat->St,S 0=st/\(∀ i o,l[i]? =some o->zFY T o (S i) (S (i+1)))/\(∀ i,i<=l.length->∃ a w,GA B N (S i) a w)/\zAN T true ops rest (S l.length) K
 | [],st,a,w,_,h,hk=>⟨fun _=>st,rfl,fun i o e=>by simp at e,fun _ _=>⟨a,w,h⟩,by
     unfold zIl at hk
     exact hk⟩
 | o :: l, st,a,w,hall,h,hk=>by
   obtain ⟨ho,hg,hc⟩:=hall o (by simp)
   have go: ∀ {draw:Bool} {p q:Option Prop} {st':St},zFY T o st st'->zBr T draw o st=some (p,q,st')->Opt q->zIl T ops l.length (l++rest) st' K->
    ∃ S:Nat->St,S 0=st/\(∀ i o',(o::l)[i]? =some o'->zFY T o' (S i) (S (i+1)))/\(∀ i,i<=(o::l).length->∃ a w,GA B N (S i) a w)/\zAN T true ops rest (S (o::l).length) K:=by
    intro draw p q st' step hs hq hk;obtain ⟨a',w',h'⟩:=zD2 (r:=none) (n:=0) ((zCq R h ho hs).2 hq (K:=fun a' w'=>GA B N st' a' w') fun _ _ hh=>hh);obtain ⟨S,s0,s1,s2,s3⟩:=zKM R rest l (fun o' ho'=>hall o' (by simp [ho'])) h' hk;refine ⟨fun i=>match i with|0=>st|i+1=>S i,rfl,fun i o' e=> ?_,fun i hi=> ?_,s3⟩
    ·cases i with
     | zero=>simp at e;subst e;show zFY T o st (S 0);rw [s0];exact step
     | succ i=>exact s1 i o' (by simpa using e)
    ·cases i with
     | zero=>exact ⟨a,w,h⟩
     | succ i=>exact s2 i (by simpa using hi)
   simp only [yA,List.cons_append,zIl,zSI,St.force_eq] at hk;cases hm:zFK T o.op (y7 st.env) with
   | some res =>
     obtain ⟨q,ob,ref⟩:=res;rw [hm] at hk
     have hst:zBr T false o st=some (none,q,st.mk' o.dst ob ref):=by
      unfold zBr;simp only [zOz hm]
     cases q with
     | none=>exact go (.inr (.inr ⟨none,ob,ref,hm,trivial,rfl⟩)) hst trivial hk
     | some q=>obtain ⟨k1,k2⟩:=hk.out;exact go (.inr (.inr ⟨some q,ob,ref,hm,k1,rfl⟩)) hst k1 k2
   | none =>
     rw [hm] at hk
     have step: ∀ {p q:Option Prop} {st':St},zBr T true o st=some (p,q,st')->Opt q->zFY T o st st':=fun {p q st'} hs hq=>by
      rw [Bool.or_eq_true] at hc;rcases hc with hc|hc
      ·refine .inl ⟨hc,?_⟩;unfold zBr at hs;simp only at hs;cases hcs:jY T o st with
       | none=>rw [hcs] at hs;simp only at hs;rw [zFo hc hcs] at hs;cases hs
       | some res =>
         rw [hcs] at hs;simp only at hs;cases hs;unfold jY at hcs;split at hcs
         ·rename_i p' q' v hv;cases hcs;exact ⟨_,_,_,hv,hq,rfl⟩
         ·cases hcs
      ·obtain ⟨ob,ref,e1,e2,e3⟩:=zWr hc hs;exact .inr (.inl ⟨hc,q,ob,ref,e1,hq,e3⟩)
     simp only at hk;split at hk
     ·rename_i st' hs;exact go (step hs trivial) hs trivial hk
     ·rename_i p st' hs;exact go (step hs trivial) hs trivial (hk.out (zCq (r:=none) (n:=0) R h ho hs).1)
     ·rename_i q st' hs;obtain ⟨k1,k2⟩:=hk.out;exact go (step hs k1) hs k1 k2
     ·rename_i p q st' hs;obtain ⟨k1,k2⟩:=(hk.out (zCq (r:=none) (n:=0) R h ho hs).1).out;exact go (step hs k1) hs k1 k2
     ·exact hk.elim
structure Ssa (ops:Array Oper) (k:Nat):Prop where
 get: ∀ i,i<k->∃ o d,ops[i]? =some o/\o.guard=none/\o.dst=some d/\(j0 o.op|| z0E o.op)=true/\∀ e∈o.after,Region.binds .any e=true->e.on<i
 one: ∀ i j o oj d,i<k->j<k->ops[i]? =some o->ops[j]? =some oj->o.dst=some d->oj.dst=some d->j=i
 reads: ∀ i j o oj d,i<k->j<k->ops[i]? =some o->ops[j]? =some oj->oj.dst=some d->.tmp d∈o.op.operands->j<i/\zHT ops i j=true
theorem z61 {k:Nat} (h:(List.range k).all (zVg ops k)=true):Ssa ops k:=by
 have key: ∀ i,i<k->zVg ops k i=true:=fun i hi=>zJ.1 h i (zV.2 hi)
 have inner: ∀ i j o oj d,i<k->j<k->ops[i]? =some o->ops[j]? =some oj->oj.dst=some d->(Nat.beq j i|| !(o.dst==some d))=true/\(!(zKp o).contains d|| (Nat.blt j i&&zHT ops i j))=true:=by
  intro i j o oj d hi hj ho hoj hd;have h1:=key i hi;unfold zVg at h1;rw [ho] at h1;simp only [zC] at h1;have h2:=zJ.1 h1.2 j (zV.2 hj);rw [hoj] at h2;simp only [hd,zC] at h2;exact h2
 refine ⟨fun i hi=> ?_,fun i j o oj d hi hj ho hoj hd hd'=> ?_,fun i j o oj d hi hj ho hoj hd hx=> ?_⟩
 ·have h1:=key i hi;unfold zVg at h1;split at h1
  ·rename_i o ho;simp only [zC] at h1;obtain ⟨⟨⟨⟨h2,h3⟩,h4⟩,h5⟩,_⟩:=h1;obtain ⟨d,hd⟩:=Option.isSome_iff_exists.1 h3;refine ⟨o,d,ho,by simpa using h2,hd,h4,fun e he hb=> ?_⟩;have:=zJ.1 h5 e (by simpa using he);rw [hb] at this;simp only [Bool.not_true,Bool.false_or] at this;exact zCj this
  ·cases h1
 ·have:=(inner i j o oj d hi hj ho hoj hd').1;rw [hd] at this;simp at this;exact this
 ·have:=(inner i j o oj d hi hj ho hoj hd).2
  have hm:(zKp o).contains d=true:=by
   simp only [List.contains_iff_mem,zKp,List.mem_filterMap];exact ⟨_,by simpa using hx,rfl⟩
  rw [hm] at this;simp only [Bool.not_true,Bool.false_or,zC] at this;exact ⟨zCj this.1,this.2⟩
structure Run (T:Tab) (B:Base) (N:Nat) (ops:Array Oper) (k:Nat) (S:Nat->St):Prop where
 step: ∀ i o,i<k->ops[i]? =some o->zFY T o (S i) (S (i+1))
 real: ∀ i,i<=k->∃ (a:Act) (w:World),GA B N (S i) a w
def MkI (S:Nat->St) (k i:Nat):Prop:=i<k/\(S (i+1)).next=(S i).next+1
theorem zFY.heap {s s':St} (h:zFY T o s s'):(s'.hp=s.hp/\s'.next=s.next)\/(∃ ob,s'.hp=(s.next,ob)::s.hp/\s'.next=s.next+1):=by
 have mk: ∀ {ob:Ob} {ref:Nat->AS},∃ ob',(s.mk' o.dst ob ref).hp=(s.next,ob')::s.hp/\(s.mk' o.dst ob ref).next=s.next+1:=fun {ob ref} =>⟨ob,by unfold St.mk';cases o.dst<;>rfl,by unfold St.mk';cases o.dst<;>rfl⟩
 rcases h with ⟨hc,p,q,v,_,_,rfl⟩|⟨hm,q,ob,ref,_,_,rfl⟩|⟨q,ob,ref,_,_,rfl⟩
 ·exact .inl ⟨by cases o.dst<;>rfl,by cases o.dst<;>rfl⟩
 ·exact .inr mk
 ·exact .inr mk
theorem zFY.env {s s':St} (h:zFY T o s s') {t:Tmp} (ht:o.dst≠some t):yZ s'.env t=yZ s.env t:=by
 have put: ∀ (st:St) (v:AV),yZ (st.put o.dst v).env t=yZ st.env t:=fun st v=>by
  cases hd:o.dst with
  | none=>rfl
  | some d =>
    show yZ ((d,v)::st.env) t=_;rw [qR,if_neg (by rintro rfl;exact ht hd)]
 rcases h with ⟨_,p,q,v,_,_,rfl⟩|⟨_,q,ob,ref,_,_,rfl⟩|⟨q,ob,ref,_,_,rfl⟩
 ·exact put _ _
 ·unfold St.mk';rw [put]
 ·unfold St.mk';rw [put]
variable {k:Nat} {S:Nat->St}
theorem Run.keep (hS:Run T B N ops k S) (hO:Ssa ops k) (i:Nat): ∀ d,i+d<=k->(S i).next<=(S (i+d)).next/\∀ id,id<(S i).next->hget (S (i+d)).hp id=hget (S i).hp id
 | 0,_=>⟨zI _,fun _ _=>rfl⟩
 | d +1,h=>by
   obtain ⟨h1,h2⟩:=Run.keep hS hO i d (by omega);obtain ⟨o,dd,ho,_⟩:=hO.get (i+d) (by omega);rcases (hS.step (i+d) o (by omega) ho).heap with ⟨e1,e2⟩|⟨ob,e1,e2⟩
   ·refine ⟨by show _<=(S (i+d+1)).next;rw [e2];exact h1,fun id hid=> ?_⟩;show hget (S (i+d+1)).hp id=_;rw [e1];exact h2 id hid
   ·refine ⟨by show _<=(S (i+d+1)).next;rw [e2];omega,fun id hid=> ?_⟩;show hget (S (i+d+1)).hp id=_;rw [e1,yL,if_neg (by omega)];exact h2 id hid
theorem Run.keep' (hS:Run T B N ops k S) (hO:Ssa ops k) {i j:Nat} (h:i<=j) (hj:j<=k):(S i).next<=(S j).next/\∀ id,id<(S i).next->hget (S j).hp id=hget (S i).hp id:=by
 have:=hS.keep hO i (j - i) (by omega);rwa [show i+(j - i)=j by omega] at this
theorem Run.env (hS:Run T B N ops k S) (hO:Ssa ops k) {t:Tmp} (i:Nat): ∀ d,i+d<=k->(∀ j o,i<=j->j<i+d->ops[j]? =some o->o.dst≠some t)->yZ (S (i+d)).env t=yZ (S i).env t
 | 0,_,_=>rfl
 | d+1,h,hn=>by
   obtain ⟨o,dd,ho,_⟩:=hO.get (i+d) (by omega);show yZ (S (i+d+1)).env t=_;rw [(hS.step (i+d) o (by omega) ho).env (hn (i+d) o (by omega) (by omega) ho)];exact Run.env hS hO i d (by omega) fun j o h1 h2=>hn j o h1 (by omega)
theorem Run.env' (hS:Run T B N ops k S) (hO:Ssa ops k) {t:Tmp} {i j:Nat} (h:i<=j) (hj:j<=k) (hn: ∀ m o,i<=m->m<j->ops[m]? =some o->o.dst≠some t):yZ (S j).env t=yZ (S i).env t:=by
 have:=hS.env hO (t:=t) i (j - i) (by omega) (fun m o h1 h2=>hn m o h1 (by omega));rwa [show i+(j - i)=j by omega] at this
theorem Run.whose (hS:Run T B N ops k S) (hO:Ssa ops k): ∀ j,j<=k->∀ id,id<(S j).next->id<(S 0).next\/∃ i,i<j/\MkI S k i/\id=(S i).next
 | 0,_,id,h=> .inl h
 | j + 1,hj,id,h=>by
   obtain ⟨o,dd,ho,_⟩:=hO.get j (by omega);rcases (hS.step j o (by omega) ho).heap with ⟨e1,e2⟩|⟨ob,e1,e2⟩
   ·rw [e2] at h;rcases Run.whose hS hO j (by omega) id h with h|⟨i,h1,h2,h3⟩
    ·exact .inl h
    ·exact .inr ⟨i,by omega,h2,h3⟩
   ·rw [e2] at h
    by_cases e:id=(S j).next
    ·exact .inr ⟨j,by omega,⟨by omega,e2⟩,e⟩
    ·rcases Run.whose hS hO j (by omega) id (by omega) with h|⟨i,h1,h2,h3⟩
     ·exact .inl h
     ·exact .inr ⟨i,by omega,h2,h3⟩
theorem Run.lt (hS:Run T B N ops k S) (hO:Ssa ops k) {i j:Nat} (hi:MkI S k i) (h:i<j) (hj:j<=k):(S i).next<(S j).next:=by
 obtain ⟨hik,e2⟩:=hi;have:=(hS.keep' hO (i:=i+1) (j:=j) (by omega) hj).1;omega
structure RD (B:Base) (N:Nat) (ops:Array Oper) (k:Nat) (S:Nat->St) (listed:Array Bool) (a:Act) (w:World) (env:Env) (hp':jJ) (β:yR):Prop where
 gb:GB B N β ⟨env,hp',(S k).next⟩ a w
 done: ∀ i o d,i<k->ops[i]? =some o->o.dst=some d->listed.getD i true=true->yZ env d=yZ (S k).env d
 was: ∀ t,(∀ i o,i<k->ops[i]? =some o->o.dst=some t->listed.getD i true=false)->yZ env t=yZ (S 0).env t
 old: ∀ id,id<(S 0).next->hget hp' id=hget (S 0).hp id
 made: ∀ i,MkI S k i->listed.getD i true=true->hget hp' (S i).next=hget (S k).hp (S i).next
 wait: ∀ i,MkI S k i->listed.getD i true=false->β[(S i).next]? =some dead
 none: ∀ id,(∀ ob,hget (S k).hp id≠some ob)->hget hp' id=Option.none
 nob: ∀ i,MkI S k i->listed.getD i true=false->hget hp' (S i).next=Option.none
def AS.notId (id:Nat):AS->Prop
 | .own i _ _=>i≠id
 | .ptr i _ _=>i≠id
 | .pti i _ _=>i≠id
 | .omp i=>i≠id
 | .arr i _=>i≠id
 | _=>True
theorem zG1 {id:Nat} (hdd:β[id]? =some dead) {a:AS} {v:Value} (h:y5 σ β a v):a.notId id:=by
 cases a with
 | own i s n =>
   rintro rfl;simp only [y5] at h;rw [hdd] at h;simp only [dead] at h;obtain ⟨a,cap,_,_,_,h1,_⟩:=h;omega
 | ptr i j k =>
   rintro rfl;obtain ⟨p,e,r,hl⟩:=h;rw [hdd] at e;cases e;exact absurd hl (by simp)
 | pti i j k =>
   rintro rfl;obtain ⟨p,e,r,hl,hs⟩:=h;rw [hdd] at e;cases e;exact absurd hl (by simp)
 | omp i =>
   rintro rfl;obtain ⟨p,e,r,hl⟩:=h;rw [hdd] at e;cases e;exact absurd hl (by simp)
 | arr i n =>
   rintro rfl;obtain ⟨p,e,r,hl,hs⟩:=h;rw [hdd] at e;cases e;exact absurd hs (by simp)
 | _=>trivial
theorem z29 {Pr:Nat->Bool} {m:Nat} (hPr: ∀ id,id<m->id<β.length->β[id]? ≠some dead->Pr id=true) {a:AS} {v:Value} (h:y5 σ β a v) (hm:a.idsBelow m=true):a.okP Pr=true:=by
 have hl:=h.low;cases a with
 | own i s n=>exact hPr i (zCj hm) (zCj hl) fun e=>zG1 e h rfl
 | ptr i j k=>exact hPr i (zCj hm) (zCj hl) fun e=>zG1 e h rfl
 | pti i j k=>exact hPr i (zCj hm) (zCj hl) fun e=>zG1 e h rfl
 | omp i=>exact hPr i (zCj hm) (zCj hl) fun e=>zG1 e h rfl
 | arr i n=>exact hPr i (zCj hm) (zCj hl) fun e=>zG1 e h rfl
 | _=>rfl
theorem zG7 {Pr:Nat->Bool} {m:Nat} (hPr: ∀ id,id<m->id<β.length->β[id]? ≠some dead->Pr id=true): ∀ {l:List AS} {ds:List Value},jQ (y5 σ β) l ds->l.all (AS.idsBelow m)=true->l.all (AS.okP Pr)=true
 | [],[],_,_=>rfl
 | a::l,d::ds,h,hm=>by
   simp only [List.all_cons,zC] at hm ⊢;exact ⟨z29 hPr h.1 hm.1,zG7 hPr h.2 hm.2⟩
 | [],_::_,h,_=>h.elim
 | _::_,[],h,_=>h.elim
theorem zWf {Pr:Nat->Bool} {m:Nat} (hPr: ∀ id,id<m->id<β.length->β[id]? ≠some dead->Pr id=true) {a:AV} {v:Value} (h:y6 σ β a v) (hm:a.low m):a.okP Pr:=by
 cases a with
 | s a=>exact z29 hPr h hm
 | agg l=>obtain ⟨ds,_,r⟩:=h;exact zG7 hPr r hm
 | tup l=>trivial
theorem zSn {op:Op} {ev ev':Operand->AV} (h: ∀ x∈op.operands,ev x=ev' x):zMl T op ev=zMl T op ev':=by
 cases op<;>first|rfl|skip
 case box t x=>simp only [zMl];rw [h x (by simp [Op.operands])]
 case makeMap t x=>cases x<;>rfl
 case makeSlice t l c=>simp only [zMl];rw [h l (by simp [Op.operands]),h c (by simp [Op.operands])]
theorem zRg {l:Array Bool} {i:Nat} (h:l.getD i false=true):l.getD i true=true:=by
 rcases Nat.lt_or_ge i l.size with h'|h'
 ·simpa [zL,h'] using h
 ·simp [zL,Array.getElem?_eq_none h']
theorem zMx {op:Op} {ev ev':Operand->AV} (h: ∀ x∈op.operands,ev x=ev' x):zFK T op ev=zFK T op ev':=by
 cases op<;>first|rfl|skip
 case call c =>
  have:c.args.toList.map ev=c.args.toList.map ev':=List.map_congr_left fun x hx=>h x (by
   simp [Op.operands,Call.operands];right;simpa using hx)
  simp only [zFK,this]
theorem z0A (R:jM P T) {env:Env} {hp:jJ} {nx:Nat} (h:GB B N β ⟨env,hp,nx⟩ a w) {o:Oper} (ho:yT N o=true) {id:Nat} (hdd:β[id]? =some dead) {q:Option Prop} {ob:Ob} {ref:Nat->AS}
 (hm:zFK T o.op (y7 env)=some (q,ob,ref)) (hq:Opt q) {K:Act->World->Prop} {Q:Exit->Act->World->Prop} (hK: ∀ a' w' q',GB B N (β.set id q') ((⟨env,(id,ob)::hp,nx⟩:St).put o.dst (.s (ref id))) a' w'->K a' w'):o.wpIn (FR r) n P a w K Q:=by
 obtain ⟨c,f,g,m,e,u,xs,h1,h2,h3,h4,h5,rfl,rfl⟩:=zIQ hm;obtain ⟨σ,hg⟩:=h.gg;have hd:=zAb h.size ho
 have hops: ∀ x∈o.op.operands,y6 σ β (y7 env x) (a.eval x):=fun x hx=>by
  simp only [yT,zC,zJ] at ho;exact jP hg (ho.2 x (by simpa using hx))
 obtain ⟨callee,args,ts⟩:=c;change callee=_ at h2;subst h2;have nodefer: ∀ c,o.op≠.defer c:=by intro c e;rw [h1] at e;cases e
 have hargs:jH σ β (args.toList.map (y7 env)) (args.toList.map a.eval):=zCV fun x hx=>hops x (by simp [h1,Op.operands,Call.operands];right;simpa using hx);obtain ⟨fn,k3,k4,k5⟩:=R.fr.fn _ _ h3;have hcalls:=(R.fr.ok _ _ h3 _ _ h5 σ _ w hg.mem.ag (zKi (hp:=hp) h4 hargs)).2 hq;refine ⟨fun f _=>trivial,?_⟩;rw [Oper.semAt_eq _ _ _ nodefer,zFv (ρ:=a.eval) h1 rfl k3 k4 k5];refine ⟨(fun e=>by cases e),?_⟩;have e1:(args.toList.map a.eval).toArray=args.map a.eval:=by rw [<- Array.toList_map]
 rw [e1] at hcalls;refine (zCJ r _ hcalls).mono fun en w' ⟨v,σ',β',e1,e2,e3,e4,e5,e6,e7⟩=> ?_;subst e1
 match β',e6 with
 | [q'],e6 =>
   obtain ⟨_,f2,f3,_⟩:=e6
   have hg1:=(hg.world e2 e3 e4 e7).reviveQ hdd f2 fun p hp=>⟨(f3 p hp).1,Nat.le_trans hg.bel.size (f3 p hp).2.1,fun id' ob' p' hi hp'=>by
    have:=(hg.mem.ob _ _ hi).lt hp';have:=(f3 p hp).2.1
    omega⟩
   refine hK _ _ q' (zCf h.defers h.size ⟨σ',hg1.put hd ?_⟩);have hid:id<β.length:=(zK.1 hdd).1;have hlast:(β.set id q')[id]? =some q':=by simp [hid]
   have e5:y5 σ' [q'] (.own 0 0 m) v:=e5;show y5 σ' (β.set id q') (.own id 0 m) v;simp only [y5,hlast];simp only [y5] at e5;exact e5
open Classical in
theorem z11 (R:jM P T) (hO:Ssa ops k) (hS:Run T B N ops k S) (hall: ∀ (i:Nat) (o:Oper),ops[i]? =some o->yT N o=true) {listed:Array Bool} (dn:Dn ops listed) {env:Env} {hp':jJ} (hr:RD B N ops k S listed a w env hp' β)
 {i:Nat} (hi:i∈Region.ready .any ops listed) (hik:i<k) {K:Act->World->Prop} (hK: ∀ a' w' env' hp2 β',RD B N ops k S (listed.setIfInBounds i true) a' w' env' hp2 β'->K a' w'):wpOpIn (FR r) n P ops Q i K a w:=by
 obtain ⟨hun,o,ho,hedge⟩:=mem_ready.1 hi;obtain ⟨o',d,ho',hg,hd,hc,_⟩:=hO.get i hik;rw [ho] at ho';cases ho';have hop:=hall i o ho;have setne: ∀ {j:Nat},j≠i->(listed.setIfInBounds i true).getD j true=listed.getD j true:=fun {j} hne=>getD_set_ne true (Ne.symm hne);have zA6:(listed.setIfInBounds i true).getD i true=true:=jA;unfold wpOpIn;simp only [ho];rw [if_pos (by simp [Region.wanted,hg])]
 have hopnd: ∀ x∈o.op.operands,y7 env x=y7 (S i).env x:=by
  intro x hx;cases x with
  | tmp t =>
    show yZ env t=yZ (S i).env t
    by_cases hdef: ∃ j oj,j<k/\ops[j]? =some oj/\oj.dst=some t
    ·obtain ⟨j,oj,hj,hoj,hdj⟩:=hdef;obtain ⟨hji,htw⟩:=hO.reads i j o oj t hik hj ho hoj hdj hx;have hl:listed.getD j false=true:=zFf dn htw (fun o' ho'' e he hb=>by rw [ho] at ho'';cases ho'';exact hedge e he hb);rw [hr.done j oj t hj hoj hdj (zRg hl)];exact hS.env' hO (i:=i) (j:=k) (by omega) (zI _) (fun m om h1 h2 hom e=>by have:=hO.one j m oj om t hj h2 hoj hom hdj e;omega)
    ·rw [hr.was t (fun j oj hj hoj hdj=>absurd ⟨j,oj,hj,hoj,hdj⟩ hdef)];exact (hS.env' hO (i:=0) (j:=i) (by omega) (by omega) (fun m om _ h2 hom e=>hdef ⟨m,om,by omega,hom,e⟩)).symm
  | const=>rfl
  | global=>rfl
  | func=>rfl
 have hops: ∀ {σ:Sig},GG B σ β ⟨env,hp',(S k).next⟩ a.tmps w->∀ x∈o.op.operands,y6 σ β (y7 env x) (a.eval x):=fun hgg x hx=>by
  simp only [yT,zC,zJ] at hop;exact jP hgg (hop.2 x (by simpa using hx))
 obtain ⟨σ,hgg⟩:=hr.gb.gg
 have envDone: ∀ {v:AV},yZ (S k).env d=v->∀ j oj d',j<k->ops[j]? =some oj->oj.dst=some d'->(listed.setIfInBounds i true).getD j true=true->yZ ((d,v)::env) d'=yZ (S k).env d':=by
  intro v hv j oj d' hj hoj hdj hl;rw [qR];split
  ·rename_i e;subst e;exact hv.symm
  ·rename_i hne;refine hr.done j oj d' hj hoj hdj ?_
   by_cases e:j=i
   ·subst e;rw [ho] at hoj;cases hoj;rw [hd] at hdj;cases hdj;exact (hne rfl).elim
   ·rw [<- setne e];exact hl
 have envWas: ∀ {v:AV} (t:Tmp),(∀ j oj,j<k->ops[j]? =some oj->oj.dst=some t->(listed.setIfInBounds i true).getD j true=false)->yZ ((d,v)::env) t=yZ (S 0).env t:=by
  intro v t ht;rw [qR];split
  ·rename_i e;subst e;have:=ht i o hik ho hd;rw [zA6] at this;cases this
  ·refine hr.was t fun j oj hj hoj hdj=> ?_;have:=ht j oj hj hoj hdj
   by_cases e:j=i
   ·subst e;rw [zA6] at this;cases this
   ·rw [<- setne e];exact this
 have hStep:=hS.step i o hik ho
 have envK: ∀ {v:AV},yZ (S (i+1)).env d=v->yZ (S k).env d=v:=fun {v} hv=>by
  rw [<- hv];exact hS.env' hO (i:=i+1) (j:=k) (by omega) (zI _) (fun m om h1 h2 hom e=>by have:=hO.one i m o om d hik h2 ho hom hd e;omega)
 rcases hStep with ⟨hcalm,p,q,v,hac,hq,hS1⟩|⟨hmk,q,ob,ref,hmo,hq,hS1⟩|⟨q,ob,ref,hmc,hq,hS1⟩
 ·-- a calm one
  obtain ⟨a0,w0,hreal⟩:=hS.real i (by omega);obtain ⟨σ0,β0,hg0⟩:=hreal.gg
  let Pr:Nat->Bool:=fun id=>decide (id<(S i).next/\β[id]? ≠some dead)
  have hPr: ∀ id,id<(S i).next->id<β.length->β[id]? ≠some dead->Pr id=true:=fun id h1 _ h2=>decide_eq_true ⟨h1,h2⟩
  have hsame:zGB Pr (S i).hp hp':=by
   intro id hid;obtain ⟨h1,h2⟩:=of_decide_eq_true hid;rcases hS.whose hO i (by omega) id h1 with h|⟨j,hj,hmj,rfl⟩
   ·rw [hr.old id h,(hS.keep' hO (i:=0) (j:=i) (by omega) (by omega)).2 id h]
   ·have hl:listed.getD j true=true:=by
     cases hl:listed.getD j true with
     | true=>rfl
     | false=>exact absurd (hr.wait j hmj hl) h2
    rw [hr.made j hmj hl,(hS.keep' hO (i:=i) (j:=k) (by omega) (zI _)).2 _ h1]
  have hlow0: ∀ x∈o.op.operands,(y7 (S i).env x).low (S i).next:=fun x hx=>by
   simp only [yT,zC,zJ] at hop;have:=(jP hg0 (hop.2 x (by simpa using hx))).low;rw [hg0.len] at this;exact this
  have hokP: ∀ x∈o.op.operands,(y7 (S i).env x).okP Pr:=fun x hx=>by
   rw [<- hopnd x hx];exact zWf hPr (hops hgg x hx) (by rw [hopnd x hx];exact hlow0 x hx)
  have hflat:zGW Pr (S i).hp:=by
   intro id t cs hid hgt;have h1:hget hp' id=some (.flat t cs):=by rw [hsame id hid];exact hgt
   obtain ⟨p1,_,_,_,_,_,c1,_,r1⟩:=hgg.mem.ob _ _ h1;obtain ⟨p2,_,_,_,_,_,c2,_,r2⟩:=hg0.mem.ob _ _ hgt;have:=zHz r2;rw [hg0.len] at this;exact zG7 hPr r1 this
  have hac':jO T o.op (y7 env) hp'=some (p,q,v):=by
   rw [qF hopnd,zDR hokP hsame hflat];exact hac
  refine (zLS R hr.gb hop hac').2 hq fun a' w' hgb=> ?_;rw [hd] at hgb
  have hv:yZ (S (i+1)).env d=v:=by
   rw [hS1,hd];show yZ ((d,v)::_) d=v;rw [qR,if_pos rfl]
  have notMk: ∀ j,MkI S k j->j≠i:=fun j hj e=>by
   subst e;have e1:(S (j+1)).next=(S j).next:=by rw [hS1];cases o.dst<;>rfl
   have:=hj.2;omega
  exact hK a' w' ((d,v)::env) hp' β ⟨hgb,envDone (envK hv),envWas,hr.old,fun j hj hl=>hr.made j hj (by rw [<- setne (notMk j hj)];exact hl),fun j hj hl=>hr.wait j hj (by rw [<- setne (notMk j hj)];exact hl),hr.none,
   fun j hj hl=>hr.nob j hj (by rw [<- setne (notMk j hj)];exact hl)⟩
 ·-- one that makes a thing
  have hmi:MkI S k i:=⟨hik,by rw [hS1];unfold St.mk';cases o.dst<;>rfl⟩;rw [<- zSn hopnd] at hmo;obtain ⟨v,w',pl,hrun,hM⟩:=zTF (σ:=σ) (β:=β) (w:=w) (ρ:=a.eval) R.ty R.ety (hops hgg) hmo hq;have hg':=hgg.reviveG (hr.wait i hmi hun) (zAb hr.gb.size hop) hM
  have hob:hget (S k).hp (S i).next=some ob:=by
   have e1:hget (S (i+1)).hp (S i).next=some ob:=by
    have:(S (i+1)).hp=((S i).next,ob)::(S i).hp:=by rw [hS1];unfold St.mk';cases o.dst<;>rfl
    rw [this,yL,if_pos rfl]
   rw [(hS.keep' hO (i:=i+1) (j:=k) (by omega) (zI _)).2 _ (hS.lt hO hmi (by omega) (by omega))];exact e1
  have hv:yZ (S (i+1)).env d= .s (ref (S i).next):=by
   have:(S (i+1)).env=(d,.s (ref (S i).next))::(S i).env:=by rw [hS1,hd];rfl
   rw [this,qR,if_pos rfl]
  have apart: ∀ j,MkI S k j->j≠i->(S j).next≠(S i).next:=fun j hj hne=>by
   rcases Nat.lt_or_gt_of_ne hne with h|h
   ·have:=hS.lt hO hj h (by omega);omega
   ·have:=hS.lt hO hmi h (by have:=hj.1;omega);omega
  refine ⟨fun f _=>trivial,?_⟩;rw [Oper.semAt_eq _ _ _ (by intro c e;rw [e] at hmk;cases hmk),hrun]
  have hgb:GB B N (β.set (S i).next (some pl)) ⟨(d,.s (ref (S i).next))::env,((S i).next,ob)::hp',(S k).next⟩ (a.put o.dst v) w':=by
   refine zCf hr.gb.defers hr.gb.size ⟨σ,?_⟩;rw [hd] at hg' ⊢;exact hg'
  refine hK _ _ _ _ _ ⟨hgb,envDone (envK hv),envWas,fun id hid=> ?_,fun j hj hl=> ?_,fun j hj hl=> ?_,fun id hid=> ?_,fun j hj hl=> ?_⟩
  ·rw [yL,if_neg (by have:=(hS.keep' hO (i:=0) (j:=i) (by omega) (by omega)).1;omega)];exact hr.old id hid
  ·rw [yL]
   by_cases e:j=i
   ·subst e;rw [if_pos rfl,hob]
   ·rw [if_neg (Ne.symm (apart j hj e))];exact hr.made j hj (by rw [<- setne e];exact hl)
  ·have e:j≠i:=by rintro rfl;rw [zA6] at hl;cases hl
   rw [List.getElem?_set_ne (Ne.symm (apart j hj e))];exact hr.wait j hj (by rw [<- setne e];exact hl)
  ·rw [yL,if_neg (by rintro rfl;exact hid ob hob)];exact hr.none id hid
  ·have e:j≠i:=by rintro rfl;rw [zA6] at hl;cases hl
   rw [yL,if_neg (Ne.symm (apart j hj e))];exact hr.nob j hj (by rw [<- setne e];exact hl)
 ·-- a call that hands a row over
  have hmi:MkI S k i:=⟨hik,by rw [hS1];unfold St.mk';cases o.dst<;>rfl⟩;rw [<- zMx hopnd] at hmc
  have hob:hget (S k).hp (S i).next=some ob:=by
   have e1:hget (S (i+1)).hp (S i).next=some ob:=by
    have:(S (i+1)).hp=((S i).next,ob)::(S i).hp:=by rw [hS1];unfold St.mk';cases o.dst<;>rfl
    rw [this,yL,if_pos rfl]
   rw [(hS.keep' hO (i:=i+1) (j:=k) (by omega) (zI _)).2 _ (hS.lt hO hmi (by omega) (by omega))];exact e1
  have hv:yZ (S (i+1)).env d= .s (ref (S i).next):=by
   have:(S (i+1)).env=(d,.s (ref (S i).next))::(S i).env:=by rw [hS1,hd];rfl
   rw [this,qR,if_pos rfl]
  have apart: ∀ j,MkI S k j->j≠i->(S j).next≠(S i).next:=fun j hj hne=>by
   rcases Nat.lt_or_gt_of_ne hne with h|h
   ·have:=hS.lt hO hj h (by omega);omega
   ·have:=hS.lt hO hmi h (by have:=hj.1;omega);omega
  refine z0A R hr.gb hop (hr.wait i hmi hun) hmc hq fun a' w' q' hgb=> ?_;rw [hd] at hgb;refine hK _ _ _ _ _ ⟨hgb,envDone (envK hv),envWas,fun id hid=> ?_,fun j hj hl=> ?_,fun j hj hl=> ?_,fun id hid=> ?_,fun j hj hl=> ?_⟩
  ·rw [yL,if_neg (by have:=(hS.keep' hO (i:=0) (j:=i) (by omega) (by omega)).1;omega)];exact hr.old id hid
  ·rw [yL]
   by_cases e:j=i
   ·subst e;rw [if_pos rfl,hob]
   ·rw [if_neg (Ne.symm (apart j hj e))];exact hr.made j hj (by rw [<- setne e];exact hl)
  ·have e:j≠i:=by rintro rfl;rw [zA6] at hl;cases hl
   rw [List.getElem?_set_ne (Ne.symm (apart j hj e))];exact hr.wait j hj (by rw [<- setne e];exact hl)
  ·rw [yL,if_neg (by rintro rfl;exact hid ob hob)];exact hr.none id hid
  ·have e:j≠i:=by rintro rfl;rw [zA6] at hl;cases hl
   rw [yL,if_neg (Ne.symm (apart j hj e))];exact hr.nob j hj (by rw [<- setne e];exact hl)
def left (listed:Array Bool) (k:Nat):Nat:=((List.range k).filter fun i=> !listed.getD i true).length
theorem zVb {listed:Array Bool} {k:Nat} (h:left listed k=0): ∀ i<k,listed.getD i true=true:=by
 intro i hi;cases hl:listed.getD i true with
 | true=>rfl
 | false =>
   have hm:i∈(List.range k).filter fun i=> !listed.getD i true:=List.mem_filter.2 ⟨zV.2 hi,by rw [hl];rfl⟩;rw [List.length_eq_zero_iff.1 h] at hm;cases hm
theorem zKZ {listed:Array Bool} {i:Nat} (hl:listed.getD i true=false): ∀ {l:List Nat},l.Nodup->i∈l->
 (l.filter fun j=> !listed.getD j true).length=(l.filter fun j=> !(listed.setIfInBounds i true).getD j true).length+1
 | b ::l,hn,hm=>by
   obtain ⟨hb,hn⟩:=List.nodup_cons.1 hn
   have same: ∀ l:List Nat,i∉l->(l.filter fun j=> !listed.getD j true)=l.filter fun j=> !(listed.setIfInBounds i true).getD j true:=fun l hil =>
    List.filter_congr fun j hj=>by rw [getD_set_ne true (by rintro rfl;exact hil hj)]
   rcases zT.1 hm with e|hm
   ·subst e;rw [List.filter_cons_of_pos (by rw [hl];rfl),List.filter_cons_of_neg (by rw [jA];simp),same l hb];rfl
   ·have hne:b≠i:=by rintro rfl;exact hb hm
    have ih:=zKZ hl hn hm
    by_cases hp:listed.getD b true=false
    ·rw [List.filter_cons_of_pos (by rw [hp];rfl),List.filter_cons_of_pos (by rw [getD_set_ne true (Ne.symm hne),hp];rfl)];simp only [yA];omega
    ·rw [List.filter_cons_of_neg (by simpa using hp),List.filter_cons_of_neg (by rw [getD_set_ne true (Ne.symm hne)];simpa using hp)];exact ih
theorem zZn {listed:Array Bool} {i k:Nat} (hl:listed.getD i true=false) (hi:i<k):left listed k=left (listed.setIfInBounds i true) k+1 :=
 zKZ hl List.nodup_range (zV.2 hi)
theorem zUV (R:jM P T) (hO:Ssa ops k) (hS:Run T B N ops k S) (hk:k<=ops.size) (hneed: ∀ j,k<=j->j<ops.size->zCT ops j [j]=true) (hall: ∀ (i:Nat) (o:Oper),ops[i]? =some o->yT N o=true) {fuel:Nat} (lk:Array Bool)
 (htail: ∀ (a:Act) (w:World) (listed:Array Bool) (env:Env) (hp':jJ) (β:yR),(∀ i<k,listed.getD i true=true)->(∀ i,listed.getD i true=lk.getD i true)->listed.size=lk.size->RD B N ops k S listed a w env hp' β->wpAnyIn (FR r) n P .any ops Q fuel listed a w) :
 ∀ (m:Nat) (listed:Array Bool) (a:Act) (w:World) (env:Env) (hp':jJ) (β:yR),left listed k=m->Dn ops listed->listed.size=ops.size->(∀ i,k<=i->listed.getD i true=lk.getD i true)->(∀ i<k,lk.getD i true=true)->listed.size=lk.size->RD B N ops k S listed a w env hp' β->
   wpAnyIn (FR r) n P .any ops Q (m+fuel) listed a w
 | 0,listed,a,w,env,hp',β,hm,dn,hsz,hl1,hl2,hs,hr=>by
   rw [zD];have h1:=zVb hm;refine htail a w listed env hp' β h1 (fun i=> ?_) hs hr
   by_cases hi:i<k
   ·rw [h1 i hi,hl2 i hi]
   ·exact hl1 i (by omega)
 | m + 1,listed,a,w,env,hp',β,hm,dn,hsz,hl1,hl2,hs,hr=>by
   rw [show m+1+fuel=(m+fuel)+1 by omega]
   -- the first that is not listed
   have hex: ∃ i,i<k/\listed.getD i true=false:=by
    have:((List.range k).filter fun i=> !listed.getD i true)≠[]:=by
     intro e;have:left listed k=0:=by unfold left;rw [e];rfl
     omega
    obtain ⟨i,hi⟩:=List.exists_mem_of_ne_nil _ this;obtain ⟨h1,h2⟩:=List.mem_filter.1 hi;exact ⟨i,zV.1 h1,by simpa using h2⟩
   have hfalse: ∀ {j:Nat},j<ops.size->listed.getD j true=true->listed.getD j false=true:=fun {j} hj h=>by
    simpa [zL,hsz,hj] using h
   have hready:Region.ready .any ops listed≠[]:=by
    obtain ⟨i,hi⟩: ∃ i,(i<k/\listed.getD i true=false)/\∀ j,j<i->¬ (j<k/\listed.getD j true=false):=by
     obtain ⟨i,hi⟩:=hex
     induction i using Nat.strongRecOn with
     | ind i ih =>
       by_cases h: ∃ j,j<i/\(j<k/\listed.getD j true=false)
       ·obtain ⟨j,h1,h2⟩:=h;exact ih j h1 h2
       ·exact ⟨i,hi,fun j h1 h2=>h ⟨j,h1,h2⟩⟩
    obtain ⟨⟨hik,hun⟩,hmin⟩:=hi;obtain ⟨o,d,ho,_,_,_,hedge⟩:=hO.get i hik
    have:i∈Region.ready .any ops listed:=mem_ready.2 ⟨hun,o,ho,fun e he hb=>by
     have hlt:=hedge e he hb;refine hfalse (by omega) ?_;cases hl:listed.getD e.on true with
     | true=>rfl
     | false=>exact absurd ⟨by omega,hl⟩ (hmin e.on hlt)⟩
    intro e;rw [e] at this;cases this
   refine ⟨fun h0=>(hready h0).elim,fun i hi=> ?_⟩;have hun:=(mem_ready.1 hi).1;have hdn:=dn.set hi
   have hik:i<k:=by
    refine Nat.lt_of_not_le fun hki=> ?_
    have hisz:i<ops.size:=by
     refine Nat.lt_of_not_le fun h=> ?_;rw [zL,Array.getElem?_eq_none (by omega)] at hun;cases hun
    obtain ⟨j,hj,hjl⟩:=hex
    have:=zDO (k:=ops.size) (listed:=listed.setIfInBounds i true) (fun j1 i1 h1 h2 h3=>by
     have h4:(listed.setIfInBounds i true).getD j1 false=true:=by simpa [zL,hsz,h1] using h2
     exact zRg (hdn j1 i1 h4 h3)) i [i] (hneed i hki hisz) (fun j1 h1=>by
     rw [zF.1 h1];exact ⟨hisz,jA⟩) (by omega) j (by omega)
    rw [getD_set_ne true (by omega)] at this;rw [hjl] at this;cases this
   refine z11 R hO hS hall dn hr hi hik fun a' w' env' hp2 β' hr'=> ?_;refine zUV R hO hS hk hneed hall lk htail m _ a' w' env' hp2 β' ?_ hdn (by simpa using hsz) (fun j hj=> ?_) hl2 (by simpa using hs) hr'
   ·have:=zZn hun hik;omega
   ·rw [getD_set_ne true (by omega)];exact hl1 j hj
end
end Go.Vm
