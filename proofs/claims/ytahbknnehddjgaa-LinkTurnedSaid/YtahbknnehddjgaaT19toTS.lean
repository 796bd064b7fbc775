/- A part of the proofs of the laws. -/
import Derived.Test.YtahbknnehddjgaaT12toT18
import Derived.Test.YtahbknnehddjgaaT0toVmInl
set_option linter.unusedSimpArgs false
set_option linter.unusedVariables false
set_option maxHeartbeats 8000000
set_option maxRecDepth 100000
open Go Go.Vm Go.Proofs
namespace S1
def seqT:SeqTab:=fun f ps L=>f=66∧∃ (o:Option tabE.T) (v:Int),ps=[⟨.pt tabE,o⟩,⟨i64E,v⟩]∧(∀ x,o=some x→Good x)∧L=aroundL o v
def lkO (x:tabE.T) (L:List Int) (k:Nat):List Int:=(L.take k).map fun c=>tVert x (tNext x c)
def lkLast (L:List Int) (k:Nat):Int:=if k=0 then -1 else L.getD (k - 1) 0
def linkR (x:tabE.T) (v:Int):List Int :=
  lkO x (aroundL (some x) v) (aroundL (some x) v).length++(if lkLast (aroundL (some x) v) (aroundL (some x) v).length≥0∧tAfter x (lkLast (aroundL (some x) v) (aroundL (some x) v).length)<0 then [tVert x (tPrev x (lkLast (aroundL (some x) v) (aroundL (some x) v).length))] else [])
theorem lkO_len (x:tabE.T) (L:List Int) (k:Nat) (h:k≤L.length):(lkO x L k).length=k:=by
  unfold lkO;rw [List.length_map,List.length_take];omega
theorem lkO_succ (x:tabE.T) (L:List Int) (k:Nat) (h:k<L.length):lkO x L (k+1)=lkO x L k++[tVert x (tNext x (L.getD k 0))]:=by
  have e:L.take (k+1)=L.take k++[L.getD k 0]:=by
    rw [List.take_succ_eq_append_getElem h,gdE,gE h];rfl
  unfold lkO
  rw [e,List.map_append];rfl
theorem after_le {x:tabE.T} (g:Good x) (c:Int):tAfter x c≤30000:=by
  unfold tAfter;split
  · decide
  · exact next_le g _
theorem before_le {x:tabE.T} (g:Good x) (c:Int):tBefore x c≤30000:=by
  unfold tBefore;split
  · decide
  · exact prev_le g _
theorem aroundF_le {x:tabE.T} (g:Good x) {b:Int} : ∀ n c,c≤30000→(aroundF x b n c).length≤n∧∀ a∈aroundF x b n c,a≤30000
  | 0,c,_=>⟨Nat.le_refl _,fun a h=>by cases h⟩
  | n + 1,c,hc=>by
    obtain ⟨h1,h2⟩:=aroundF_le g (b:=b) n (tAfter x c) (after_le g c)
    unfold aroundF
    split
    · exact ⟨by simp,fun a h=>by rw [List.mem_singleton] at h;omega⟩
    · split
      · exact ⟨by simp,fun a h=>by rw [List.mem_singleton] at h;omega⟩
      · refine ⟨by rw [List.length_cons];omega,fun a h=> ?_⟩
        rcases List.mem_cons.1 h with e | h
        · omega
        · exact h2 a h
theorem firstF_le {x:tabE.T} (g:Good x) {c0:Int} (h0:c0≤30000): ∀ n c,c≤30000→(firstF x c0 n c).1≤30000
  | 0,c,_=>by show (0:Int)≤30000;decide
  | n +1,c,hc=>by
    unfold firstF
    split
    · exact hc
    · split
      · exact h0
      · exact firstF_le g h0 n _ (before_le g c)
theorem aroundL_le {x:tabE.T} (g:Good x) (v:Int):(aroundL (some x) v).length≤30000∧∀ a∈aroundL (some x) v,a≤30000:=by
  show (if tThere x v then _ else _:List Int).length≤30000∧∀ a∈(if tThere x v then _ else _:List Int),a≤30000
  split
  · exact aroundF_le g _ _ (firstF_le g (corner_le g v) _ _ (corner_le g v))
  · exact ⟨Nat.zero_le _,fun a h=>by cases h⟩
theorem getD_le {L:List Int} (h: ∀ a∈L,a≤30000) (k:Nat):L.getD k 0≤30000:=by
  rw [gdE]
  cases e:L[k]? with
  | none=>decide
  | some a=>exact h a (List.mem_of_getElem? e)
theorem lkLast_le {L:List Int} (h: ∀ a∈L,a≤30000) (k:Nat):lkLast L k≤30000:=by
  unfold lkLast;split
  · decide
  · exact getD_le h _
def loopK (x:tabE.T) (L:List Int):Spec Nat where
  inv _:=True
  live _:=[]
  keep:=[2,4,5,6]
  heap k:=[(2,.flat 27 [.own 4 0 (lkO x L k).length]),(3,.flat 3 [.int .i64 (lkLast L k)]),(4,.row i64E 3 (lkO x L k))]
  keepH:=[0,1,5]
  mu _:=0
end S1
open Go Go.Vm Go.Proofs
namespace S1
def loopK0:Spec Nat where
  inv _:=True
  live _:=[]
  keep:=[2,4,5,6]
  heap _:=[(2,.flat 27 [.own 4 0 0]),(3,.flat 3 [.int .i64 (-1)]),(4,.row i64E 3 [])]
  keepH:=[0,1,5]
  mu _:=0
def linkO (o:Option tabE.T) (v:Int):List Int:=onO o [] fun x=>linkR x v
end S1
/- The function of a sequence: between its yields it runs by the machine; at each yield it owns nothing. -/
namespace Go.Vm
open Go.RowKit
def yFun (st:St) (o:Oper):Option (Operand×Operand) :=
  match o.op with
  | .call ⟨.value (.tmp t),⟨[x]⟩,_⟩=>match opnd st.env (.tmp t) with
    | .s (.val (.func (.yield _) ⟨[]⟩ ⟨[]⟩))=>some (.tmp t,x)
    | _=>none
  | _=>none
def yCand (o:Oper):Bool :=
  match o.op with
  | .call ⟨.value (.tmp _),⟨[_]⟩,_⟩=>true
  | _=>false
def yGo (l:Nat) (L:List Int) (g x:Operand) (dst:Option Tmp) (st:St) (pre:List Int) (K:St→List Int→Prop):Prop :=
  match opnd st.env g,opnd st.env x,st.hp with
  | .s (.val (.func (.yield l') ⟨[]⟩ ⟨[]⟩)),.s (.int .i64 n),[]=>l'=l∧(pre++[n]) <+: L∧(st.put dst (.s (.bool true))).forceAll fun st=>K st (pre++[n])
  | _,_,_=>False
def aopsY (T:Tab) (l:Nat) (L:List Int) (ops:Array Oper):List Oper→St→List Int→(St→List Int→Prop)→Prop
  | [],st,pre,K=>K st pre
  | o :: r, st,pre,K=>match yFun st o with
    | some (g,x)=>match o.guard with
      | none=>yGo l L g x o.dst st pre fun st pre=>aopsY T l L ops r st pre K
      | some (j,want)=>match guardVal ops st.env j with
        | .s (.bool b)=>BIf b
          (match want with
            | true=>(st.put (guardSlot ops j) (.s (.bool true))).force fun st=>yGo l L g x o.dst st pre fun st pre=>aopsY T l L ops r st pre K
            | false=>(st.put (guardSlot ops j) (.s (.bool true))).force fun st=>(st.put o.dst .undef).force fun st=>aopsY T l L ops r st pre K)
          (match want with
            | true=>(st.put (guardSlot ops j) (.s (.bool false))).force fun st=>(st.put o.dst .undef).force fun st=>aopsY T l L ops r st pre K
            | false=>(st.put (guardSlot ops j) (.s (.bool false))).force fun st=>yGo l L g x o.dst st pre fun st pre=>aopsY T l L ops r st pre K)
        | _=>False
    | none=>aops T false ops [o] st fun st=>aopsY T l L ops r st pre K
def yParts (ops:Array Oper) (draw:Bool):Bool :=
  match draw with
  | false=>ops.toList.any yCand
  | true=>false
def acodeY (T:Tab) (l:Nat) (L:List Int):Code→St→List Int→(Exit→St→List Int→Prop)→Prop
  | .seq a b,st,pre,K=>acodeY T l L a st pre (fun e s pre=>match e with
    | .normal=>acodeY T l L b s pre K
    | e=>K e s pre)
  | .cond c a b,st,pre,K=>match opnd st.env c with
    | .s (.bool t)=>BIf t (acodeY T l L a st pre K) (acodeY T l L b st pre K)
    | _=>False
  | .block id c,st,pre,K=>acodeY T l L c st pre (fun e s pre=>match e with
    | .exit i=>match Nat.beq i id with | true=>K .normal s pre | false=>K (.exit i) s pre
    | e=>K e s pre)
  | .loop c,st,pre,K=> ∃ (X:Type) (S:Spec X) (PR:X→List Int),(∃ x,S.inv x∧PR x=pre∧leSt st (S.head st x))∧
      ∀ x,S.inv x→(S.head st x).forceAll fun h=>acodeY T l L c h (PR x) (fun e s pre'=>match e with
        | .normal=> ∃ y,S.inv y∧PR y=pre'∧leSt s (S.head st y)∧S.mu y<S.mu x
        | e=>K e s pre')
  | .region i ops draw,st,pre,K=>match yParts ops draw with
    | true=>aopsY T l L ops ops.toList st pre (K .normal)
    | false=>acode T (.region i ops draw) st (fun e s=>K e s pre)
  | .skip,st,pre,K=>K .normal st pre
  | .exit i,st,pre,K=>K (.exit i) st pre
  | .ret,st,pre,K=>K .ret st pre
  | _,_,_,_=>False
theorem yFun_eq {st:St} {o:Oper} {g x:Operand} (h:yFun st o=some (g,x)): ∃ t ts,g= .tmp t∧o.op= .call ⟨.value (.tmp t),#[x],ts⟩:=by
  unfold yFun at h
  split at h
  · rename_i t x2 ts h1
    split at h
    · cases h;exact ⟨t,ts,rfl,h1⟩
    · cases h
  · cases h
section
variable {P:Program} {T:Tab} {B B0:Base} {w w':World} {σ τ:Sig} {β:Places} {st:St} {tmps:Array Value} {N:Nat} {a:Act}
theorem yGo_out {l:Nat} {L:List Int} {g x:Operand} {dst:Option Tmp} {pre:List Int} {K:St→List Int→Prop} (h:yGo l L g x dst st pre K) :
    opnd st.env g= .s (.val (.func (.yield l) #[] #[]))∧∃ n,opnd st.env x= .s (.int .i64 n)∧st.hp=[]∧(pre++[n]) <+: L∧K (st.put dst (.s (.bool true))) (pre++[n]):=by
  unfold yGo at h
  split at h
  · rename_i l' n h1 h2 h3
    obtain ⟨rfl,hp,hk⟩:=h
    rw [St.forceAll_eq] at hk
    exact ⟨h1,n,h2,h3,hp,hk⟩
  · exact h.elim
theorem exec_yield {o:Oper} {ρ:Operand→Value} {l:Nat} {g x:Operand} {ts:Array TypeId} {r:Result Next} (ho:o.op= .call ⟨.value g,#[x],ts⟩) (hf:ρ g= .func (.yield l) #[] #[]) (hy:(Instr.yield l #[ρ x]).run P w=r):(execOp ρ o).run P w=r:=by
  simp only [execOp,ho,resolve,hf,Deferred.ofValue,Sem.run_bind,Sem.run_pure,Result.andThen_ok,invoke]
  simpa using hy
theorem GG.yielded (h:GG B σ β st tmps w) (hh:st.hp=[]) (hag:Ag σ w'):GG ⟨w',σ,[]⟩ σ β st tmps w' :=
  ⟨⟨hag,fun id ob hi=>by rw [hh] at hi;cases hi⟩,h.env,h.len,fun id ob p hi=>(by rw [hh] at hi;cases hi),Below.refl _ _,Sig.le.refl _,fun _ _=>rfl⟩
def YOk (P:Program) (l:Nat) (L:List Int) (J:List Int→Sig→World→Prop):Prop :=
  ∀ pre x σp σ1 Ws W1,J pre σp Ws→Below Ws.heap.size Ws W1→(∀ b,b<Ws.heap.size→σ1 b=σp b)→Ag σ1 W1→(pre++[x]) <+: L→
    YieldAt Fence.wide 0 P l #[.int .i64 x] W1 fun e W'=>e= .returned (.bool true)∧J (pre++[x]) σ1 W'∧Ag σ1 W'
theorem yield_step {l:Nat} {L:List Int} {J:List Int→Sig→World→Prop} (hY:YOk P l L J) {o:Oper} (ho:operOk N o=true) {ops:Array Oper} {os:List Oper} {Q:Exit→Act→World→Prop} {t:Tmp} {x:Operand} {ts:Array TypeId} (hop:o.op= .call ⟨.value (.tmp t),#[x],ts⟩)
    {pre:List Int} {K:St→List Int→Prop} (hd:B.dfs=[]) (hj:J pre B.sg B.w) (h:GA B N st a w) (hk:yGo l L (.tmp t) x o.dst st pre K)
    (hQ: ∀ B1 st' pre' a' w',B1.dfs=[]→J pre' B1.sg B1.w→K st' pre'→GA B1 N st' a' w'→wpListIn (FR none) 0 P ops Q os a' w'):o.wpIn (FR none) 0 P a w (wpListIn (FR none) 0 P ops Q os) Q:=by
  obtain ⟨hg,n,hx,hh,hpre,hK⟩:=yGo_out hk
  obtain ⟨σ1,β1,hgg⟩:=h.gg
  have hxo:opndOk x=true:=by
    simp only [operOk,Bool.and_eq_true,List.all_eq_true] at ho
    exact ho.2 x (by simp [hop,Op.operands,Call.operands])
  have hgv:a.eval (.tmp t)= .func (.yield l) #[] #[]:=by
    have:=opnd_rep hgg (x:= .tmp t) rfl
    rw [hg] at this
    exact this.1
  have hxv:a.eval x= .int .i64 n:=by
    have:=opnd_rep hgg hxo
    rw [hx] at this
    exact this.1
  obtain ⟨fn,tmps,assign,body,hrun,hround⟩:=hY pre n B.sg σ1 B.w w hj hgg.bel hgg.grew.2 hgg.mem.ag hpre
  refine ⟨fun f' _=>trivial,?_⟩
  have hex:=exec_yield (r:= .ok (.round l fn tmps assign body) w) hop hgv (by rw [hxv];exact hrun)
  rw [Oper.semAt_eq _ _ _ (by rw [hop];intro c e;cases e),hex]
  refine ⟨(fun e=>by cases e),?_⟩
  refine hround.mono fun e w' hpost=> ?_
  obtain ⟨rfl,hj',hag'⟩:=hpost
  refine hQ ⟨w',σ1,[]⟩ (st.put o.dst (.s (.bool true))) (pre++[n]) _ _ rfl hj' hK ?_
  have hy:=(hgg.yielded hh hag').put (d:=o.dst) (dst_ok h.size ho) (a:= .s (.bool true)) (v:= .bool true) rfl
  exact ga_put (h.defers.trans hd) h.size ⟨σ1,β1,hy⟩
theorem aopsY_wp (R:Rules P T) {l:Nat} {L:List Int} {J:List Int→Sig→World→Prop} (hY:YOk P l L J) {ops:Array Oper} {Q:Exit→Act→World→Prop} : ∀ (os:List Oper) {B:Base} {st:St} {a:Act} {w:World} {pre:List Int} {K:St→List Int→Prop},
    (∀ o∈os,operOk N o=true)→B.dfs=[]→J pre B.sg B.w→GA B N st a w→aopsY T l L ops os st pre K→
    (∀ B1 st' pre' a' w',B1.dfs=[]→J pre' B1.sg B1.w→K st' pre'→GA B1 N st' a' w'→Q .normal a' w')→wpListIn (FR none) 0 P ops Q os a w
  | [],B,st,a,w,pre,K,_,hd,hj,h,hk,hQ=>hQ _ _ _ _ _ hd hj hk h
  | o ::os,B,st,a,w,pre,K,hall,hd,hj,h,hk,hQ=>by
    have ho:=hall o (by simp)
    have hall': ∀ o∈os,operOk N o=true:=fun o' ho'=>hall o' (by simp [ho'])
    simp only [aopsY,St.force_eq] at hk
    split at hk
    case h_2 =>
      have:=aops_wpL R os [o] (ops:=ops) (Q:=Q) (fun o' ho'=>hall o' (by rw [List.mem_singleton.1 ho'];simp)) h hk fun st' a' w' hk' h'=>aopsY_wp R hY os hall' hd hj h' hk' hQ
      exact this
    rename_i g x hyf
    obtain ⟨t,ts,rfl,hop⟩:=yFun_eq hyf
    have go: ∀ {st:St},GA B N st a w→yGo l L (.tmp t) x o.dst st pre (fun st pre=>aopsY T l L ops os st pre K)→o.wpIn (FR none) 0 P a w (wpListIn (FR none) 0 P ops Q os) Q:=fun h hk =>
      yield_step hY ho hop hd hj h hk fun B1 st' pre' a' w' hd' hj' hk' h'=>aopsY_wp R hY os hall' hd' hj' h' hk' hQ
    have skip: ∀ {st:St},GA B N st a w→aopsY T l L ops os (st.put o.dst .undef) pre K→wpListIn (FR none) 0 P ops Q os (a.put o.dst undef) w:=fun h hk =>
      aopsY_wp R hY os hall' hd hj (ga_skip h ho) hk hQ
    simp only [wpListIn]
    cases hg:o.guard with
    | none =>
      simp only [hg] at hk
      have:Region.wanted o (yielded ops a.tmps)=true:=by simp [Region.wanted,hg]
      rw [if_pos this]
      exact go h hk
    | some jw =>
      obtain ⟨j,want⟩:=jw
      simp only [hg] at hk
      obtain ⟨σ,β,hgg⟩:=h.gg
      split at hk
      case h_2=>exact hk.elim
      rename_i b hb
      obtain ⟨d,hd1,hd2⟩:=guardVal_slot (ops:=ops) (env:=st.env) (j:=j) (by rw [hb];simp)
      rw [hd2] at hb
      have hv:=hgg.env d
      rw [hb] at hv
      have hy:=guard_bool (ops:=ops) hd1 (show a.tmps.getD d undef= .bool b from hv)
      rw [hd1] at hk
      cases b with
      | true =>
        cases want with
        | true =>
          rw [if_pos (by simp [Region.wanted,hg,hy])]
          exact go (ga_bool h hb) hk
        | false =>
          rw [if_neg (by simp [Region.wanted,hg,hy])]
          exact ⟨fun f _=>trivial,skip (ga_bool h hb) hk⟩
      | false =>
        cases want with
        | true =>
          rw [if_neg (by simp [Region.wanted,hg,hy])]
          exact ⟨fun f _=>trivial,skip (ga_bool h hb) hk⟩
        | false =>
          rw [if_pos (by simp [Region.wanted,hg,hy])]
          exact go (ga_bool h hb) hk
theorem acodeY_wp (R:Rules P T) {l:Nat} {L:List Int} {J:List Int→Sig→World→Prop}
    (hY:YOk P l L J) :
    ∀ (c:Code) {B:Base} {st:St} {a:Act} {w:World} {pre:List Int} {K:Exit→St→List Int→Prop} {Q:Exit→Act→World→Prop},codeOk N c=true→B.dfs=[]→J pre B.sg B.w→GA B N st a w→acodeY T l L c st pre K→
    (∀ e B1 st' pre' a' w',B1.dfs=[]→J pre' B1.sg B1.w→K e st' pre'→GA B1 N st' a' w'→Q e a' w')→c.wpIn (FR none) 0 P Q a w:=by
  intro c
  induction c with
  | skip=>intro B st a w pre K Q _ hd hj h hk hQ;exact wpIn_skip (hQ _ _ _ _ _ _ hd hj hk h)
  | exit i=>intro B st a w pre K Q _ hd hj h hk hQ;exact wpIn_exit (hQ _ _ _ _ _ _ hd hj hk h)
  | ret=>intro B st a w pre K Q _ hd hj h hk hQ;exact wpIn_ret (hQ _ _ _ _ _ _ hd hj hk h)
  | seq x y ihx ihy =>
    intro B st a w pre K Q hok hd hj h hk hQ
    simp only [codeOk,Bool.and_eq_true] at hok
    refine wpIn_seq (ihx hok.1 hd hj h hk fun e B1 st' pre' a' w' hd' hj' hk' h'=> ?_)
    cases e with
    | normal=>exact ihy hok.2 hd' hj' h' hk' hQ
    | _=>exact hQ _ _ _ _ _ _ hd' hj' hk' h'
  | cond c x y ihx ihy =>
    intro B st a w pre K Q hok hd hj h hk hQ
    simp only [codeOk,Bool.and_eq_true] at hok
    simp only [acodeY] at hk
    split at hk
    · rename_i t ht
      have hev:=cond_bool h hok.1.1 ht
      cases t with
      | true=>exact wpIn_cond_true hev (ihx hok.1.2 hd hj h hk hQ)
      | false=>exact wpIn_cond_false hev (ihy hok.2 hd hj h hk hQ)
    · exact hk.elim
  | block id c ih =>
    intro B st a w pre K Q hok hd hj h hk hQ
    simp only [codeOk] at hok
    refine wpIn_block (ih hok hd hj h hk fun e B1 st' pre' a' w' hd' hj' hk' h'=> ?_)
    cases e with
    | exit i =>
      simp only [Exit.inBlock]
      dsimp only at hk'
      split at hk'
      · rename_i e;rw [if_pos (Nat.eq_of_beq_eq_true e)];exact hQ _ _ _ _ _ _ hd' hj' hk' h'
      · rename_i e
        rw [if_neg (fun e'=>by subst e';rw [Nat.beq_refl] at e;cases e)];exact hQ _ _ _ _ _ _ hd' hj' hk' h'
    | _=>exact hQ _ _ _ _ _ _ hd' hj' hk' h'
  | loop c ih =>
    intro B st a w pre K Q hok hd hj h hk hQ
    simp only [codeOk] at hok
    simp only [acodeY,St.forceAll_eq] at hk
    obtain ⟨X,S,PR,⟨x0,hi0,hp0,hle0⟩,hround⟩:=hk
    refine wpIn_loop_ghost (fun m a w=> ∃ x B,S.inv x∧S.mu x=m∧B.dfs=[]∧J (PR x) B.sg B.w∧GA B N (S.head st x) a w) (S.mu x0) ⟨x0,B,hi0,rfl,hd,by rw [hp0];exact hj,h.weaken hle0⟩ ?_
    rintro m a w ⟨x,B,hi,rfl,hd,hj,hx⟩
    refine ih hok hd hj hx (hround x hi) fun e B1 st' pre' a' w' hd' hj' hk' h'=> ?_
    cases e with
    | normal =>
      obtain ⟨y,hy,hp,hle,hlt⟩:=hk'
      exact ⟨_,hlt,y,B1,hy,rfl,hd',by rw [hp];exact hj',h'.weaken hle⟩
    | _=>exact hQ _ _ _ _ _ _ hd' hj' hk' h'
  | region id ops draw =>
    intro B st a w pre K Q hok hd hj h hk hQ
    simp only [acodeY] at hk
    split at hk
    · rename_i hyp
      have hdr:draw=false:=by
        unfold yParts at hyp
        cases draw with
        | false=>rfl
        | true=>cases hyp
      subst hdr
      simp only [codeOk,Bool.and_eq_true,List.all_eq_true] at hok
      refine wpIn_region_list ?_
      exact aopsY_wp R hY ops.toList hok.1 hd hj h hk fun B1 st' pre' a' w' hd' hj' hk' h'=>hQ _ _ _ _ _ _ hd' hj' hk' h'
    · exact acode_wp R _ hok h hk fun e st' a' w' hk' h'=>hQ _ _ _ _ _ _ hd hj hk' h'
  | _=>intro B st a w pre K Q hok hd hj h hk;exact hk.elim
def seqArgs (l:Nat) (ps:List PtV):List AV:= .s (.val (.func (.yield l) #[] #[]))::ps.map fun q=> .s (.pt q.e (some q.x))
def postY (L:List Int):Exit→St→List Int→Prop
  | .normal,_,pre=>pre=L
  | .ret,_,pre=>pre=L
  | _,_,_=>False
def afunY (T:Tab) (fn:Func) (ps:List PtV) (L:List Int):Prop :=
  match fn.body with
  | some c=> ∀ l:Nat,(St.init (seqArgs l ps)).forceAll fun s=>acodeY T l L c s [] (postY L)
  | none=>False
theorem seqArgs_rep {l:Nat} : ∀ {ps:List PtV} {vs:List Value},All2 (fun (q:PtV) u=>ERep σ (.pt q.e) (some q.x) [u]) ps vs→VReps σ [] (ps.map fun q=>AV.s (.pt q.e (some q.x))) vs
  | [],[],_=>trivial
  | q::ps,v::vs,h=>⟨h.1,seqArgs_rep (l:=l) h.2⟩
  | [],_::_,h=>h.elim
  | _::_,[],h=>h.elim
theorem seq_ok (R:Rules P T) {f:FuncId} {fn:Func} {c:Code} (hf:P.funcs[f]? =some fn) (hb:fn.body=some c) (hok:codeOk fn.ntmps c=true) (hr:fn.results= #[])
    (hn : (fn.name == "runtime.NumGoroutine") = false) {ps : List PtV} (hl : ps.length + 1 ≤ fn.ntmps) {L : List Int} (hL : ∀ x ∈ L, InK .i64 x) (h : goodArgs (seqArgs 0 ps) → afunY T fn ps L) : SeqOk P f ps L := by
  refine ⟨fun args w=> ?_,hL,fun σ vs hcap l J W hag hst hY hJ=> ?_⟩
  · simp only [callFunc,Sem.run_bind,run_program,Result.andThen_ok,hf,hn,hb]
    simp
  · have hv:VReps σ [] (seqArgs l ps) (.func (.yield l) #[] #[]::vs):=⟨⟨rfl,fun cs e=>by cases e⟩,seqArgs_rep (l:=l) hcap⟩
    have hv0:VReps σ [] (seqArgs 0 ps) (.func (.yield 0) #[] #[]::vs):=⟨⟨rfl,fun cs e=>by cases e⟩,seqArgs_rep (l:=0) hcap⟩
    have hk:=h (vreps_good hv0)
    simp only [afunY,hb,St.forceAll_eq] at hk
    have hga:=ga_init (N:=fn.ntmps) hag hv (by simpa [seqArgs] using hl)
    have e1: #[Value.func (.yield l) #[] #[]]++vs.toArray=(Value.func (.yield l) #[] #[]::vs).toArray:=by simp
    rw [e1]
    refine callsIn_of_wp (F:=Fence.wide) (n:=0) hf hb trivial ?_
    rw [← FR.none]
    refine acodeY_wp (J:=J) (L:=L) R hY c hok rfl hJ hga (hk l) fun e B1 st' pre' a' w' hd' hj' hk' h'=> ?_
    have fin:pre'=L→a'.defers=[]∧∃ v,(results fn a'.tmps).run P w'= .ok v w'∧(∃ v',(Ending.returned v)= .returned v')∧∃ σ',J L σ' w':=by
      intro e
      subst e
      obtain ⟨vs,hrun,_⟩:=results_run (P:=P) (w:=w') (fn:=fn) (tmps:=a'.tmps) (Q:=fun r v=>True) (fun r hr'=>by rw [hr] at hr';cases hr')
      obtain ⟨σ1,β1,hg⟩:=h'.gg
      exact ⟨h'.defers.trans hd',_,hrun,⟨_,rfl⟩,_,hst _ _ _ _ hj' hg.bel⟩
    cases e with
    | normal=>exact fin hk'
    | ret=>exact fin hk'
    | _=>exact hk'.elim
end
def HoldX {α:Type} (a b:α):Prop:=a=b
theorem HoldX.out {α:Type} {a b:α} (h:HoldX a b):a=b:=h
theorem HoldX.intro {α:Type} {a b:α} (h:a=b):HoldX a b:=h
attribute [irreducible] HoldX
end Go.Vm
open Go Go.Vm Go.Proofs
namespace S1
theorem take_drop {L r:List Int} {c:Int} {k:Nat} (h:L.drop k=c::r):L.take (k+1)=L.take k++[c]∧L.drop (k+1)=r:=by
  have hk:k<L.length:=by
    rcases Nat.lt_or_ge k L.length with h' | h'
    · exact h'
    · rw [List.drop_eq_nil_of_le h'] at h;cases h
  rw [List.drop_eq_getElem_cons hk] at h
  injection h with h1 h2
  exact ⟨by rw [List.take_succ_eq_append_getElem hk,h1],h2⟩
theorem take_end {L:List Int} {c:Int} {k:Nat} (h:L.drop k=[c]):L.take k++[c]=L:=by
  have:=take_drop h
  rw [← this.1]
  have h2:=List.take_append_drop (k+1) L
  rw [this.2,List.append_nil] at h2
  exact h2
theorem take_pre {L r:List Int} {c:Int} {k:Nat} (h:L.drop k=c::r):(L.take k++[c]) <+: L:=by
  rw [← (take_drop h).1];exact List.take_prefix _ _
theorem firstF_ge {x:tabE.T} {c0:Int} (h0:0≤c0): ∀ n c,0≤c→0≤(firstF x c0 n c).1
  | 0,c,_=>by show (0:Int)≤0;decide
  | n +1,c,hc=>by
    unfold firstF
    split
    · exact hc
    · split
      · exact h0
      · exact firstF_ge h0 n _ (by omega)
theorem aroundF_ge {x:tabE.T} {b:Int} : ∀ n c,0≤c→∀ a∈aroundF x b n c,0≤a
  | 0,c,_,a,h=>by cases h
  | n + 1,c,hc,a,h=>by
    unfold aroundF at h
    split at h
    · rw [List.mem_singleton] at h;omega
    · split at h
      · rw [List.mem_singleton] at h;omega
      · rcases List.mem_cons.1 h with e | h
        · omega
        · exact aroundF_ge n _ (by omega) a h
theorem aroundL_ok {x:tabE.T} (g:Good x) (v:Int): ∀ a∈aroundL (some x) v,InK .i64 a:=fun a h=>by
  have h1:=(aroundL_le g v).2 a h
  have h2:0≤a:=by
    have h:a∈(if tThere x v then _ else _:List Int):=h
    split at h
    · rename_i ht
      have hc:0≤tCorner x v:=by
        simp only [tThere,Bool.and_eq_true,decide_eq_true_eq] at ht;exact ht.2.2
      exact aroundF_ge _ _ (firstF_ge hc _ _ hc) a h
    · cases h
  exact InK.i64.2 (by unfold i64ok;omega)
theorem aroundF_step {x:tabE.T} {b c:Int} {k:Nat} (h:k≤24576):aroundF x b (30000 - k) c=c::(if tAfter x c<0 then [] else if tAfter x c=b then [] else aroundF x b (30000 - (k+1)) (tAfter x c)):=by
  rw [show 30000 - k=(30000 - (k+1))+1 by omega];rfl
theorem aroundL_eq {x:tabE.T} {v:Int} (h1:0≤v) (h2:v<x.1.1) (h3:0≤tCorner x v):aroundL (some x) v=aroundF x (firstR x v).1 30000 (firstR x v).1:=by
  show (if tThere x v then _ else _:List Int)=_
  rw [if_pos (by unfold tThere;rw [decide_eq_true h1,decide_eq_true h2,decide_eq_true h3];rfl)]
theorem aroundL_no {x:tabE.T} {v:Int} (h: ¬ (0≤v∧v<x.1.1∧0≤tCorner x v)):aroundL (some x) v=[]:=by
  show (if tThere x v then _ else _:List Int)=_
  rw [if_neg (fun e=>h (by simpa [tThere] using e))]
def loopY (x:tabE.T) (b:Int):Spec Nat where
  inv k:=FInv (tAfter x) b k∧(aroundF x b 30000 b).drop k=aroundF x b (30000 - k) (iter (tAfter x) b k)
  live k:=[(6,.s (.int .i64 (iter (tAfter x) b k)))]
  keep:=[0,1,2,4]
  heap _:=[]
  keepH:=[]
  mu k:=30000 - k
theorem aroundY_vc (x:tabE.T) (v:Int) (g:Good x):afunY ⟨tyL,[(62,thereC),(63,firstC),(67,afterC)],[]⟩ Try.f66 [⟨.pt tabE,some x⟩,⟨i64E,v⟩] (aroundL (some x) v):=by
  repeat' (conv=>whnf
           first | done | refine qN (by first | rfl | omega | (simp only [i64ok] at *;omega)) ?_ | apply qH | refine qG fun _=> ?_ | apply qB | apply qa | apply qo | refine qe (fun _=> ?_) (fun _=> ?_) | refine qn (fun _=> ?_) (fun _=> ?_) | refine qd (fun _=> ?_) (fun _=> ?_) | apply qt | refine qi (fun _=> ?_) (fun _=> ?_) | refine (fun (l:Nat)=> ?_) | refine Exists.intro Nat (Exists.intro (loopY x (firstR x v).1) (Exists.intro (fun k=>(aroundF x (firstR x v).1 30000 (firstR x v).1).take k) (And.intro (Exists.intro 0 (And.intro (Hold.out ?_) (And.intro (HoldX.out ?_) (And.intro ?_ (And.intro ?_ rfl))))) (fun k hk=> ?_)))) | ((with_reducible show (∃ y,And (Spec.inv (loopY _ _) y) _));refine Exists.intro (k+1) (And.intro (Hold.out ?_) (And.intro (HoldX.out ?_) (And.intro (And.intro ?_ (And.intro ?_ rfl)) (Hold.out ?_))))) | refine And.intro (Hold.out (p:=(_++[_]) <+: _) ?_) ?_ | refine HoldX.out ?_ | refine And.intro rfl ?_ | apply qE | apply qO | exact True.intro | apply qq | apply qs | refine qK (by kernel_rfl) ?_ | apply qr)
  all_goals try first | apply qz1 | apply qz2 | apply qz3 | apply qz4 | apply qz5 | apply qz6 | apply qz7 | apply qz8 | apply qz9 | apply qz0
  all_goals try simp only [take_one,take_one',set_one,take_all,qn1,rec_self,qn2,pair_eta,ETy.dflt,qn3,qn4,Int.reduceToNat,Int.reduceAdd,Int.reduceSub,Int.reduceNeg,Nat.reduceAdd,Nat.zero_add,loopY] at *
  · exact qh ⟨fun j a b=>by omega,rfl⟩
  · exact HoldX.intro rfl
  · rename_i h1 h2 h3
    rw [aroundL_eq (v:=v) h1 h2 h3]
    have h24:=fin_after g hk.1
    have:=hk.2;rw [aroundF_step h24] at this
    exact qh (take_pre this)
  · rename_i h1 h2 h3
    exact qh ⟨g,iterA_le g (firstF_le g (corner_le g v) _ _ (corner_le g v)) k⟩
  · rename_i h1 h2 h3 h4
    rw [aroundL_eq (v:=v) h1 h2 h3]
    have h24:=fin_after g hk.1
    have:=hk.2;rw [aroundF_step h24,if_pos h4] at this
    exact HoldX.intro (take_end this)
  · rename_i h1 h2 h3 h4 h5
    replace h5:tAfter x (iter (tAfter x) (firstR x v).1 k)=(firstR x v).1:=h5
    rw [aroundL_eq (v:=v) h1 h2 h3]
    have h24:=fin_after g hk.1
    have:=hk.2;rw [aroundF_step h24,if_neg h4,if_pos h5] at this
    exact HoldX.intro (take_end this)
  · rename_i h1 h2 h3 h4 h5
    replace h5: ¬ tAfter x (iter (tAfter x) (firstR x v).1 k)=(firstR x v).1:=h5
    have h24:=fin_after g hk.1
    have:=hk.2;rw [aroundF_step h24,if_neg h4,if_neg h5] at this
    exact qh ⟨hk.1.succ h4 h5,(take_drop this).2⟩
  · rename_i h1 h2 h3 h4 h5
    have h24:=fin_after g hk.1
    have:=hk.2;rw [aroundF_step h24] at this
    exact HoldX.intro (take_drop this).1
  · rename_i h1 h2 h3 h4 h5
    have h24:=fin_after g hk.1
    refine qh ?_;omega
  · rename_i h1 h2 h3
    exact HoldX.intro (aroundL_no (fun h=>h3 h.2.2)).symm
  · rename_i h1 h2
    exact HoldX.intro (aroundL_no (fun h=>h2 h.2.1)).symm
  · rename_i h1
    exact HoldX.intro (aroundL_no (fun h=>h1 h.1)).symm
theorem aroundY0_vc (v:Int):afunY ⟨tyL,[(62,thereC),(63,firstC),(67,afterC)],[]⟩ Try.f66 [⟨.pt tabE,none⟩,⟨i64E,v⟩] (aroundL none v):=by
  repeat' (conv=>whnf
           first | done | refine qN (by first | rfl | omega | (simp only [i64ok] at *;omega)) ?_ | apply qH | refine qG fun _=> ?_ | apply qB | apply qa | apply qo | refine qe (fun _=> ?_) (fun _=> ?_) | refine qn (fun _=> ?_) (fun _=> ?_) | refine qd (fun _=> ?_) (fun _=> ?_) | apply qt | refine qi (fun _=> ?_) (fun _=> ?_) | refine (fun (l:Nat)=> ?_) | refine HoldX.out ?_ | refine And.intro rfl ?_ | apply qE | apply qO | exact True.intro | apply qq | apply qs | refine qK (by kernel_rfl) ?_ | apply qr)
  all_goals try first | apply qz1 | apply qz2 | apply qz3 | apply qz4 | apply qz5 | apply qz6 | apply qz7 | apply qz8 | apply qz9 | apply qz0
  all_goals try simp only [take_one,take_one',set_one,take_all,qn1,rec_self,qn2,pair_eta,ETy.dflt,qn3,qn4,Int.reduceToNat,Int.reduceAdd,Int.reduceSub,Int.reduceNeg,Nat.reduceAdd,Nat.zero_add] at *
  exact HoldX.intro rfl
theorem seqS:SeqTabOk Try.prog seqT:=fun f ps L h=>by
  obtain ⟨rfl,o,v,rfl,hg,rfl⟩:=h
  cases o with
  | none=>exact seq_ok (rulesF (fn:=[(62,thereC),(63,firstC),(67,afterC)]) (fr:=[]) ⟨thereRow,firstRow,afterRow,trivial⟩ trivial) Try.func66 rfl (by kernel_rfl) rfl (by kernel_rfl) (Nat.le_of_ble_eq_true rfl) (fun a h=>by cases h) fun _=>aroundY0_vc v
  | some x=>exact seq_ok (rulesF (fn:=[(62,thereC),(63,firstC),(67,afterC)]) (fr:=[]) ⟨thereRow,firstRow,afterRow,trivial⟩ trivial) Try.func66 rfl (by kernel_rfl) rfl (by kernel_rfl) (Nat.le_of_ble_eq_true rfl) (aroundL_ok (hg x rfl) v) fun _=>aroundY_vc x v (hg x rfl)
end S1
open Go Go.Vm Go.Proofs
namespace S1
theorem sub_all: ∀ (ks l:List Int),ks.Nodup→(∀ x∈ks,x∈l)→l.length≤ks.length→∀ x∈l,x∈ks
  | [],l,_,_,hl,x,hx=>by
    have:l=[]:=List.length_eq_zero_iff.1 (Nat.le_zero.1 hl)
    subst this;cases hx
  | a::r,l,hd,hs,hl,x,hx=>by
    have hd:=List.nodup_cons.1 hd
    have ha:=hs a (List.mem_cons_self ..)
    have hle:(l.erase a).length=l.length - 1:=List.length_erase_of_mem ha
    have ih:=sub_all r (l.erase a) hd.2 (fun y hy=>(List.mem_erase_of_ne (fun e=>hd.1 (by rw [← e];exact hy))).2 (hs y (List.mem_cons_of_mem _ hy))) (by rw [hle];simp only [List.length_cons] at hl;omega)
    by_cases e:x=a
    · rw [e];exact List.mem_cons_self ..
    · exact List.mem_cons_of_mem _ (ih x ((List.mem_erase_of_ne e).2 hx))
theorem trl_mem (t:P3) {k:Nat} (h:k<3):(trl t).getD k 0∈trl t:=getD_mem (by simpa [trl] using h)
def EnIn (l:List P3) (v:Int) (tris:List Int) (m:EndM):Prop:= ∀ w,∀ x∈endAt m w,x∈tris∧w∈trl (tri l x)∧w≠v
theorem enW_in {l:List P3} {v i:Int} {tris:List Int} {m:EndM} {k:Nat} (hi:i∈tris) (hk:k<3) (h:EnIn l v tris m):EnIn l v tris (enW v i (tri l i) m k):=by
  intro w x hx
  unfold enW at hx
  split at hx
  · exact h w x hx
  · rename_i hn
    rw [endAt_set] at hx
    split at hx
    · rename_i e
      subst e
      rw [List.mem_append,List.mem_singleton] at hx
      rcases hx with hx | hx
      · exact h _ x hx
      · rw [hx];exact ⟨hi,trl_mem _ hk,hn⟩
    · exact h w x hx
theorem enA_in (l:List P3) (v:Int) (tris:List Int):EnIn l v tris (enA l v tris tris.length) :=
  irec_inv (n:=tris.length) (fun _ (m:EndM)=>EnIn l v tris m) (fun w x hx=>by simp [endAt,mget] at hx) (fun j m hj h =>
    irec_inv (n:=3) (fun _ (m:EndM)=>EnIn l v tris m) h (fun k m hk h=>enW_in (getD_mem hj) hk h) 3 (Nat.le_refl _)) _ (Nat.le_refl _)
def keysR (m:ReM):List Int:=m.map Prod.fst
theorem keysR_set (k:Int): ∀ m:ReM,(∀ x,x∈keysR (mset (.int .i64) m k true)→x=k∨x∈keysR m)∧((keysR m).Nodup→(keysR (mset (.int .i64) m k true)).Nodup)
  | []=>⟨fun x h=>by simpa [keysR,mset] using h,fun _=>by simp [keysR,mset]⟩
  | (a, b)::r=>by
    obtain ⟨h1,h2⟩:=keysR_set k r
    simp only [mset]
    split
    · rename_i e
      refine ⟨fun x h=> ?_,fun h=> ?_⟩
      · exact .inr h
      · exact h
    · rename_i e _
      refine ⟨fun x h=> ?_,fun h=> ?_⟩
      · rcases List.mem_cons.1 h with h | h
        · exact .inr (by rw [h];exact List.mem_cons_self ..)
        · rcases h1 x h with h | h
          · exact .inl h
          · exact .inr (List.mem_cons_of_mem _ h)
      · have h:=List.nodup_cons.1 h
        refine List.nodup_cons.2 ⟨fun hm=> ?_,h2 h.2⟩
        rcases h1 a hm with hm | hm
        · exact e hm
        · exact h.1 hm
structure TgIn (tris:List Int) (Q:Int→Prop) (S:TgS):Prop where
  q: ∀ x∈S.2.1,x∈tris∧Q x
  k: ∀ x∈keysR S.2.2,x∈tris∧Q x
  nd:(keysR S.2.2).Nodup
theorem vis_in {tris av:List Int} {Q:Int→Prop} {S:TgS} {j:Nat} (h:TgIn tris Q S) (ha:av.getD j 0∈tris∧Q (av.getD j 0)):TgIn tris Q (vis av S j):=by
  unfold vis
  split
  · exact h
  · refine ⟨fun x hx=> ?_,fun x hx=> ?_,(keysR_set _ _).2 h.nd⟩
    · rcases List.mem_append.1 hx with hx | hx
      · exact h.q x (List.mem_of_mem_drop hx)
      · rw [List.mem_singleton.1 hx];exact ha
    · rcases (keysR_set _ _).1 x hx with hx | hx
      · rw [hx];exact ha
      · exact h.k x hx
theorem tgW_in {l:List P3} {v i:Int} {tris:List Int} {Q:Int→Prop} {E:EndM} (hE:EnIn l v tris E) (hc: ∀ i∈tris,∀ j∈tris,(∃ w,w≠v∧w∈trl (tri l i)∧w∈trl (tri l j))→Q i→Q j)
    (hi:i∈tris∧Q i) {S:TgS} (h:TgIn tris Q S):TgIn tris Q (irec (tgW E v (tri l i)) S 3) :=
  irec_inv (n:=3) (fun _ (S:TgS)=>TgIn tris Q S) h (fun k S hk h=>by
    unfold tgW
    split
    · exact h
    · rename_i hn
      exact irec_inv (n:=(endAt E ((trl (tri l i)).getD k 0)).length) (fun _ (S:TgS)=>TgIn tris Q S) h (fun j S hj h=>by
        have:=hE _ _ (getD_mem hj)
        exact vis_in h ⟨this.1,hc i hi.1 _ this.1 ⟨_,this.2.2,trl_mem _ hk,this.2.1⟩ hi.2⟩) _ (Nat.le_refl _)) 3 (Nat.le_refl _)
theorem tgS_in {l:List P3} {v x0:Int} {tris:List Int} {Q:Int→Prop} {E:EndM} (hE:EnIn l v tris E) (hc: ∀ i∈tris,∀ j∈tris,(∃ w,w≠v∧w∈trl (tri l i)∧w∈trl (tri l j))→Q i→Q j)
    (h0:x0∈tris∧Q x0) (r:Nat):TgIn tris Q (tgS E l v x0 r) :=
  irec_inv (n:=r) (fun _ (S:TgS)=>TgIn tris Q S) ⟨fun x hx=>by rw [List.mem_singleton.1 hx];exact h0,fun x hx=>by rw [List.mem_singleton.1 hx];exact h0,(by show [x0].Nodup;exact List.nodup_cons.2 ⟨by simp,List.nodup_nil⟩)⟩ (fun j S _ h=>by
    unfold tgR
    split
    · rename_i hs
      exact tgW_in hE hc (h.q _ (getD_mem hs)) (S:=(S.1+1,S.2.1,S.2.2)) ⟨h.q,h.k,h.nd⟩
    · exact h) r (Nat.le_refl _)
theorem tog_all {l:List P3} {v:Int} {tris:List Int} (ht:tris≠[]) (h:togR l v tris=true) (Q:Int→Prop) (h0:Q (tris.getD 0 0))
    (hc: ∀ i∈tris,∀ j∈tris,(∃ w,w≠v∧w∈trl (tri l i)∧w∈trl (tri l j))→Q i→Q j): ∀ i∈tris,Q i:=by
  have hm:tris.getD 0 0∈tris:=getD_mem (List.length_pos_iff.2 ht)
  have k:=tgS_in (x0:=tris.getD 0 0) (enA_in l v tris) hc ⟨hm,h0⟩ (2*tris.length+2)
  unfold togR at h
  have h:=eq_of_beq h
  intro i hi
  refine (k.k i (sub_all _ tris k.nd (fun x hx=>(k.k x hx).1) ?_ i hi)).2
  unfold keysR
  rw [List.length_map]
  omega
end S1
open Go Go.Vm Go.Proofs
namespace S1
theorem atP_mem {s:List (List Int)} {w:Int} {j v:Nat} {x:Int} (hw:0≤w) (hv:v<s.length):x∈(atP s w j).getD v []↔x∈s.getD v []∨(x=j∧w=v):=by
  rw [atP_get]
  split
  · rename_i h
    rw [List.mem_append,List.mem_singleton]
    have:w=v:=by omega
    simp [this]
  · rename_i h
    have: ¬ w=v:=fun e=>h ⟨by omega,hv⟩
    simp [this]
theorem atF_mem {n:Nat} {l:List P3} (hl: ∀ j,j<l.length→0≤(l.getD j (0,0,0)).1∧0≤(l.getD j (0,0,0)).2.1∧0≤(l.getD j (0,0,0)).2.2) {v:Nat} (hv:v<n) :
    ∀ i,i≤l.length→∀ x:Int,x∈(atF n l i).getD v []↔∃ j:Nat,j<i∧x=j∧hasV (l.getD j (0,0,0)) v
  | 0,_,x=>by
    have e:(atF n l 0).getD v []=[]:=by
      show (List.replicate n ([]:List Int)).getD v []=[]
      rw [gdE,List.getElem?_replicate];split<;>rfl
    rw [e]
    exact ⟨fun h=>(by cases h),fun ⟨j,h,_⟩=>(by omega)⟩
  | i + 1,hi,x=>by
    have ih:=atF_mem hl hv i (by omega) x
    have hlen:(atF n l i).length=n:=(atF_ok n l i).1
    obtain ⟨h1,h2,h3⟩:=hl i (by omega)
    show x∈(at3 (atF n l i) (l.getD i (0,0,0)) i).getD v []↔_
    unfold at3
    rw [atP_mem h3 (by rw [atP_len,atP_len,hlen];exact hv),atP_mem h2 (by rw [atP_len,hlen];exact hv),atP_mem h1 (by rw [hlen];exact hv),ih]
    constructor
    · rintro (((⟨j,a,b,c⟩ | ⟨b,c⟩) | ⟨b,c⟩) | ⟨b,c⟩)
      · exact ⟨j,by omega,b,c⟩
      · exact ⟨i,by omega,b,.inl c⟩
      · exact ⟨i,by omega,b,.inr (.inl c)⟩
      · exact ⟨i,by omega,b,.inr (.inr c)⟩
    · rintro ⟨j,a,b,c⟩
      by_cases e:j=i
      · subst e
        rcases c with c | c | c
        · exact .inl (.inl (.inr ⟨b,c⟩))
        · exact .inl (.inr ⟨b,c⟩)
        · exact .inr ⟨b,c⟩
      · exact .inl (.inl (.inl ⟨j,by omega,b,c⟩))
theorem trl_iff {t:P3} {v:Int} :v∈trl t↔hasV t v:=by
  simp only [trl,hasV,List.mem_cons,List.not_mem_nil,or_false]
  constructor
  · rintro (h | h | h)
    · exact .inl h.symm
    · exact .inr (.inl h.symm)
    · exact .inr (.inr h.symm)
  · rintro (h | h | h)
    · exact .inl h.symm
    · exact .inr (.inl h.symm)
    · exact .inr (.inr h.symm)
theorem pin_all {n:Int} {l:List P3} (hp:pinR (n,l)=[]) (hl: ∀ j,j<l.length→0≤(l.getD j (0,0,0)).1∧0≤(l.getD j (0,0,0)).2.1∧0≤(l.getD j (0,0,0)).2.2) {v:Nat} (hv:(v:Int)<n) (Q:Nat→Prop)
    (hc: ∀ i j:Nat,i<l.length→j<l.length→hasV (l.getD i (0,0,0)) v→hasV (l.getD j (0,0,0)) v→(∃ w:Int,w≠v∧hasV (l.getD i (0,0,0)) w∧hasV (l.getD j (0,0,0)) w)→Q i→Q j)
    {a:Nat} (ha:a<l.length) (hva:hasV (l.getD a (0,0,0)) v) (hQ:Q a): ∀ i,i<l.length→hasV (l.getD i (0,0,0)) v→Q i:=by
  have hvn:v<n.toNat:=by omega
  have hm:=atF_mem (n:=n.toNat) hl hvn l.length (Nat.le_refl _)
  have htog:togR l v ((atF n.toNat l l.length).getD v [])=true:=by
    have:=List.filterMap_eq_nil_iff.1 hp v (List.mem_range.2 hvn)
    unfold piG at this
    split at this
    · assumption
    · cases this
  have hne:(atF n.toNat l l.length).getD v []≠[]:=atF_ne n.toNat l hvn l.length ⟨a,ha,hva⟩
  have tri_nat: ∀ j:Nat,tri l (j:Int)=l.getD j (0,0,0):=fun j=>rfl
  have key: ∀ R:Nat→Prop,(∀ i j:Nat,i<l.length→j<l.length→hasV (l.getD i (0,0,0)) v→hasV (l.getD j (0,0,0)) v→(∃ w:Int,w≠v∧hasV (l.getD i (0,0,0)) w∧hasV (l.getD j (0,0,0)) w)→R i→R j)→
      (∀ x,((atF n.toNat l l.length).getD v []).getD 0 0=((x:Nat):Int)→R x)→∀ i,i<l.length→hasV (l.getD i (0,0,0)) v→R i:=fun R hR h0 i hi hvi=>by
    have:=tog_all hne htog (fun y=> ∀ j:Nat,y=j→R j) h0 (fun y hy z hz ⟨w,h1,h2,h3⟩ hQy j e=>by
      obtain ⟨a,ha1,ha2,ha3⟩:=(hm y).1 hy
      obtain ⟨b,hb1,hb2,hb3⟩:=(hm z).1 hz
      have:b=j:=by omega
      subst this
      subst ha2;subst hb2
      rw [tri_nat,trl_iff] at h2 h3
      exact hR a b ha1 hb1 ha3 hb3 ⟨w,h1,h2,h3⟩ (hQy a rfl)) i ((hm i).2 ⟨i,hi,rfl,hvi⟩)
    exact this i rfl
  have hz:=(hm _).1 (getD_mem (j:=0) (List.length_pos_iff.2 hne))
  obtain ⟨z,hz1,hz2,hz3⟩:=hz
  by_cases hQz:Q z
  · exact key Q hc fun x e=>by
      have:x=z:=by omega
      rw [this];exact hQz
  · have:=key (fun i=> ¬ Q i) (fun i j hi hj h1 h2 ⟨w,h3,h4,h5⟩ hn hq=>hn (hc j i hj hi h2 h1 ⟨w,h3,h5,h4⟩ hq)) (fun x e=>by
      have:x=z:=by omega
      rw [this];exact hQz) a ha hva
    exact absurd hQ this
end S1
open Go Go.Vm Go.Proofs
namespace S1
theorem newS_tot (x:Int×List P3): ∀ i,i≤3*x.2.length→∀ c:Int,3*(x.2.length:Int) - i≤c→c<3*(x.2.length:Int)→∃ d,mget .arr2 (newS x i).1 (tEdge (x,[],[]) c)=some d
  | 0,_,c,h1,h2=>by omega
  | i +1,hi,c,h1,h2=>by
    show ∃ d,mget .arr2 (mset .arr2 (newS x i).1 (tEdge (x,[],[]) (3*x.2.length - 1 - i)) (3*x.2.length - 1 - i)) _=some d
    by_cases e:tEdge (x,[],[]) (3*x.2.length - 1 - i)=tEdge (x,[],[]) c
    · rw [e,mget_same];exact ⟨_,rfl⟩
    · rw [mget_other _ e]
      refine newS_tot x i (by omega) c ?_ h2
      have:c≠3*(x.2.length:Int) - 1 - i:=fun k=>e (by rw [k])
      omega
theorem newS_at (x:Int×List P3) (hx: ∀ c,0≤tVert (x,[],[]) c∨¬ (0≤c∧c<3*(x.2.length:Int))) {v:Nat} (hv:v<x.1.toNat): ∀ i,i≤3*x.2.length→(∃ c:Int,3*(x.2.length:Int) - i≤c∧c<3*(x.2.length:Int)∧tVert (x,[],[]) c=v)→
    0≤(newS x i).2.getD v 0∧(newS x i).2.getD v 0<3*(x.2.length:Int)∧tVert (x,[],[]) ((newS x i).2.getD v 0)=v
  | 0,_,⟨c,h1,h2,_⟩=>by omega
  | i + 1,hi,⟨c,h1,h2,h3⟩=>by
    show 0≤((newS x i).2.set (tVert (x,[],[]) (3*x.2.length - 1 - i)).toNat (3*x.2.length - 1 - i)).getD v 0∧((newS x i).2.set (tVert (x,[],[]) (3*x.2.length - 1 - i)).toNat (3*x.2.length - 1 - i)).getD v 0<_∧tVert (x,[],[]) (((newS x i).2.set (tVert (x,[],[]) (3*x.2.length - 1 - i)).toNat (3*x.2.length - 1 - i)).getD v 0)=v
    rw [gdE,List.getElem?_set]
    by_cases e:(tVert (x,[],[]) (3*x.2.length - 1 - i)).toNat=v
    · rw [if_pos e,if_pos (by rw [newS_len];omega)]
      have:=hx (3*x.2.length - 1 - i)
      refine ⟨?_,?_,?_⟩
      · show 0≤3*(x.2.length:Int) - 1 - i;omega
      · show 3*(x.2.length:Int) - 1 - i<_;omega
      · show tVert (x,[],[]) (3*x.2.length - 1 - i)=v
        rcases this with h | h<;>omega
    · rw [if_neg e,← gdE]
      refine newS_at x hx hv i (by omega) ⟨c,?_,h2,h3⟩
      have:c≠3*(x.2.length:Int) - 1 - i:=fun k=>e (by rw [← k,h3];rfl)
      omega
theorem mark3_get {s:List Bool} {t:P3} {v:Nat} (h:(mark3 s t).getD v false=true):s.getD v false=true∨t.1.toNat=v∨t.2.1.toNat=v∨t.2.2.toNat=v:=by
  unfold mark3 at h
  by_cases h1:t.1.toNat=v
  · exact .inr (.inl h1)
  by_cases h2:t.2.1.toNat=v
  · exact .inr (.inr (.inl h2))
  by_cases h3:t.2.2.toNat=v
  · exact .inr (.inr (.inr h3))
  simp only [gdE,List.getElem?_set,h1,h2,h3,if_false] at h
  rw [gdE];exact .inl h
theorem there_ex {n:Nat} {l:List P3} {v:Nat} : ∀ i,(thereF n l i).getD v false=true→∃ j,j<i∧((l.getD j (0,0,0)).1.toNat=v∨(l.getD j (0,0,0)).2.1.toNat=v∨(l.getD j (0,0,0)).2.2.toNat=v)
  | 0,h=>by
    have h:(List.replicate n false).getD v false=true:=h
    rw [gdE,List.getElem?_replicate] at h
    split at h<;>cases h
  | i +1,h=>by
    rcases mark3_get (s:=thereF n l i) h with h | h
    · obtain ⟨j,a,b⟩:=there_ex i h
      exact ⟨j,by omega,b⟩
    · exact ⟨i,by omega,h⟩
theorem fit_nn {s:Int×List P3} (h:fitS s): ∀ j,j<s.2.length→0≤(s.2.getD j (0,0,0)).1∧0≤(s.2.getD j (0,0,0)).2.1∧0≤(s.2.getD j (0,0,0)).2.2:=fun j hj=>by
  have:=triIn_spec (h.2.2.2 j hj);omega
structure Full (x:tabE.T):Prop extends Good x where
  tot: ∀ c,tHas x c=true→mget .arr2 x.2.1 (tEdge x c)=some c
  vtx: ∀ v:Int,0≤v→v<x.1.1→tHas x (tCorner x v)=true∧tVert x (tCorner x v)=v
  pin: ∀ v:Nat,(v:Int)<x.1.1→∀ Q:Nat→Prop,
    (∀ i j:Nat,i<x.1.2.length→j<x.1.2.length→hasV (x.1.2.getD i (0,0,0)) v→hasV (x.1.2.getD j (0,0,0)) v→(∃ w:Int,w≠v∧hasV (x.1.2.getD i (0,0,0)) w∧hasV (x.1.2.getD j (0,0,0)) w)→Q i→Q j)→
    ∀ a,a<x.1.2.length→hasV (x.1.2.getD a (0,0,0)) v→Q a→∀ i,i<x.1.2.length→hasV (x.1.2.getD i (0,0,0)) v→Q i
theorem tri_cor {x:tabE.T} {j:Nat} {v:Int} (hj:j<x.1.2.length) (h:hasV (x.1.2.getD j (0,0,0)) v): ∃ c,tHas x c=true∧(c / 3).toNat=j∧tVert x c=v:=by
  have key: ∀ k:Int,0≤k→k<3→p3 (x.1.2.getD j (0,0,0)) k=v→∃ c,tHas x c=true∧(c / 3).toNat=j∧tVert x c=v:=fun k h1 h2 e=>by
    have hc:0≤3*(j:Int)+k∧3*(j:Int)+k<3*(x.1.2.length:Int):=by omega
    refine ⟨3*j+k,tHas_iff.2 hc,by omega,?_⟩
    rw [tVert_t hc.1 hc.2,show ((3*(j:Int)+k) / 3).toNat=j by omega,show (3*(j:Int)+k) % 3=k by omega]
    exact e
  rcases h with h | h | h
  · exact key 0 (by omega) (by omega) h
  · exact key 1 (by omega) (by omega) h
  · exact key 2 (by omega) (by omega) h
theorem cor_tri {x:tabE.T} {c:Int} (h:tHas x c=true):(c / 3).toNat<x.1.2.length∧hasV (x.1.2.getD (c / 3).toNat (0,0,0)) (tVert x c):=by
  have hc:=tHas_iff.1 h
  refine ⟨by omega,?_⟩
  rw [tVert_t hc.1 hc.2]
  have:c % 3=0∨c % 3=1∨c % 3=2:=by omega
  rcases this with e | e | e<;>rw [e]
  · exact .inl rfl
  · exact .inr (.inl rfl)
  · exact .inr (.inr rfl)
theorem full_new {s:Int×List P3} (h:(chkR s).1=0):Full (newT s):=by
  have hc:=cert_of h
  have g:=good_new hc
  have hw:=firstW_nil (chk_all h)
  refine {g with tot:=fun c hc=> ?_,vtx:=fun v h1 h2=> ?_,pin:=fun v hv Q hQ a ha1 ha2 ha3=> ?_}
  · have i0:=tHas_iff.1 hc
    have i0:0≤c∧c<3*(s.2.length:Int):=i0
    obtain ⟨d,hd⟩:=newS_tot s _ (Nat.le_refl _) c (by omega) i0.2
    have hd:mget .arr2 (newT s).2.1 (tEdge (newT s) c)=some d:=hd
    obtain ⟨k1,k2⟩:=g.map _ _ hd
    rw [hd,g.uniq _ _ k1 hc k2]
  · have hl:loneR s=[]:=hw _ (by simp)
    have h2:v<s.1:=h2
    have hv:v.toNat<s.1.toNat:=by omega
    have:=List.filterMap_eq_nil_iff.1 hl v.toNat (List.mem_range.2 hv)
    unfold loG at this
    split at this
    case isFalse=>cases this
    rename_i ht
    obtain ⟨j,hj,e⟩:=there_ex _ ht
    have nn:=fit_nn hc.fit j hj
    obtain ⟨c,c1,c2,c3⟩:=tri_cor (x:=newT s) (v:=v) hj (by
      show (s.2.getD j (0,0,0)).1=v∨(s.2.getD j (0,0,0)).2.1=v∨(s.2.getD j (0,0,0)).2.2=v
      omega)
    have c1:=tHas_iff.1 c1
    have c1:0≤c∧c<3*(s.2.length:Int):=c1
    have hat:=newS_at s (fun c=>by
      by_cases h:0≤c∧c<3*(s.2.length:Int)
      · exact .inl (tVert_in (x:=(s,[],[])) hc.fit (tHas_iff.2 h)).1
      · exact .inr h) hv _ (Nat.le_refl _) ⟨c,by omega,c1.2,by have:tVert (s,[],[]) c=v:=c3;omega⟩
    have e:tCorner (newT s) v=(newS s (3*s.2.length)).2.getD v.toNat 0:=by
      unfold tCorner
      rw [if_pos (by show 0≤v∧v<((newS s _).2.length:Int);rw [newS_len];omega)];rfl
    rw [e]
    refine ⟨tHas_iff.2 ⟨hat.1,hat.2.1⟩,?_⟩
    have:=hat.2.2
    show tVert (s,[],[]) _=v
    omega
  · exact pin_all (n:=s.1) (l:=s.2) (hw (pinR s) (by simp)) (fit_nn hc.fit) hv Q hQ ha1 ha2 ha3
section
variable {x:tabE.T} {c d:Int}
theorem np (h:tHas x c=true):tNext x (tPrev x c)=c∧tPrev x (tNext x c)=c∧tNext x (tNext x c)=tPrev x c∧tPrev x (tPrev x c)=tNext x c:=by
  have h1:=hasNP h
  rw [tNext_t h1.1,tNext_t h1.2,tPrev_t h1.1,tPrev_t h1.2,tNext_t h,tPrev_t h]
  unfold trn;omega
theorem edgeN (h:tHas x c=true):tEdge x (tNext x c)=(tVert x (tPrev x c),tVert x c):=by
  unfold tEdge;rw [(np h).2.2.1,(np h).2.1]
theorem edgeP (h:tHas x c=true):tEdge x (tPrev x c)=(tVert x c,tVert x (tNext x c)):=by
  unfold tEdge;rw [(np h).1,(np h).2.2.2]
theorem Good.ne (g:Good x) (h:tHas x c=true):tVert x c≠tVert x (tNext x c)∧tVert x c≠tVert x (tPrev x c)∧tVert x (tNext x c)≠tVert x (tPrev x c):=by
  have h1:=g.ends _ (hasNP h).1
  have h2:=g.ends _ (hasNP h).2
  have h3:=g.ends _ h
  rw [edgeN h] at h1
  rw [edgeP h] at h2
  exact ⟨h2,fun e=>h1 e.symm,h3⟩
theorem Good.same (g:Good x) (hc:tHas x c=true) (hd:tHas x d=true) (h1:tVert x c=tVert x d) (h2:tVert x (tNext x c)=tVert x (tNext x d)):c=d:=by
  have:=g.uniq _ _ (hasNP hc).2 (hasNP hd).2 (by rw [edgeP hc,edgeP hd,h1,h2])
  rw [← (np hc).1,← (np hd).1,this]
theorem Good.sameP (g:Good x) (hc:tHas x c=true) (hd:tHas x d=true) (h1:tVert x c=tVert x d) (h2:tVert x (tPrev x c)=tVert x (tPrev x d)):c=d:=by
  have:=g.uniq _ _ (hasNP hc).1 (hasNP hd).1 (by rw [edgeN hc,edgeN hd,h1,h2])
  rw [← (np hc).2.1,← (np hd).2.1,this]
theorem Good.after_v (g:Good x) (h:0≤tAfter x c):tVert x (tAfter x c)=tVert x c∧tVert x (tNext x (tAfter x c))=tVert x (tPrev x c):=by
  obtain ⟨h1,h2,h3⟩:=g.after_has h
  obtain ⟨k1,k2,k3⟩:=g.opp h3
  rw [edgeN h1] at k3
  have e:tAfter x c=tNext x (tOpp x (tNext x c)):=by unfold tAfter;rw [if_neg (by omega)]
  rw [e,(np k2).2.2.1]
  exact ⟨congrArg Prod.fst k3,congrArg Prod.snd k3⟩
theorem Good.before_v (g:Good x) (h:0≤tBefore x c):tVert x (tBefore x c)=tVert x c∧tVert x (tPrev x (tBefore x c))=tVert x (tNext x c):=by
  obtain ⟨h1,h2,h3⟩:=g.before_has h
  obtain ⟨k1,k2,k3⟩:=g.opp h3
  rw [edgeP h1] at k3
  have e:tBefore x c=tPrev x (tOpp x (tPrev x c)):=by unfold tBefore;rw [if_neg (by omega)]
  rw [e,(np k2).2.2.2]
  exact ⟨congrArg Prod.snd k3,congrArg Prod.fst k3⟩
theorem Full.facing (g:Full x) (h:tHas x d=true):tFacing x (tEdge x d)=d:=by
  unfold tFacing;rw [g.tot d h];rfl
theorem Full.opp_is (g:Full x) (hd:tHas x d=true) (h:tEdge x d=((tEdge x c).2,(tEdge x c).1)):tOpp x c=d:=by
  unfold tOpp;rw [← h];exact g.facing hd
theorem Full.after_is (g:Full x) (hc:tHas x c=true) (hd:tHas x d=true) (h1:tVert x d=tVert x c) (h2:tVert x (tNext x d)=tVert x (tPrev x c)):tAfter x c=d:=by
  have e:tOpp x (tNext x c)=tPrev x d:=g.opp_is (hasNP hd).2 (by rw [edgeP hd,edgeN hc,h1,h2])
  have:=tHas_iff.1 (hasNP hd).2
  unfold tAfter;rw [if_neg (by rw [e];omega),e,(np hd).1]
theorem Full.before_is (g:Full x) (hc:tHas x c=true) (hd:tHas x d=true) (h1:tVert x d=tVert x c) (h2:tVert x (tPrev x d)=tVert x (tNext x c)):tBefore x c=d:=by
  have e:tOpp x (tPrev x c)=tNext x d:=g.opp_is (hasNP hd).1 (by rw [edgeN hd,edgeP hc,h1,h2])
  have:=tHas_iff.1 (hasNP hd).1
  unfold tBefore;rw [if_neg (by rw [e];omega),e,(np hd).2.1]
theorem Full.before_after (g:Full x) (h:0≤tAfter x c):tBefore x (tAfter x c)=c:=by
  obtain ⟨h1,h2,_⟩:=g.after_has h
  have:=g.after_v h
  exact g.before_is h2 h1 this.1.symm this.2.symm
theorem Full.after_before (g:Full x) (h:0≤tBefore x c):tAfter x (tBefore x c)=c:=by
  obtain ⟨h1,h2,_⟩:=g.before_has h
  have:=g.before_v h
  exact g.after_is h2 h1 this.1.symm this.2.symm
end
theorem aroundF_clo {x:tabE.T} (g:Good x) {b:Int} : ∀ n k,k+n=30000→FInv (tAfter x) b k→∀ y∈aroundF x b n (iter (tAfter x) b k),tAfter x y<0∨tAfter x y=b∨tAfter x y∈aroundF x b n (iter (tAfter x) b k)
  | 0,k,e,h,y,hy=>by have:=fin_after g h;omega
  | n + 1,k,e,h,y,hy=>by
    unfold aroundF at hy ⊢
    by_cases h1:tAfter x (iter (tAfter x) b k)<0
    · rw [if_pos h1] at hy
      rw [List.mem_singleton.1 hy];exact .inl h1
    · rw [if_neg h1] at hy ⊢
      by_cases h2:tAfter x (iter (tAfter x) b k)=b
      · rw [if_pos h2] at hy
        rw [List.mem_singleton.1 hy];exact .inr (.inl h2)
      · rw [if_neg h2] at hy ⊢
        have hn:iter (tAfter x) b (k+1)∈aroundF x b n (iter (tAfter x) b (k+1)):=by
          obtain ⟨m,rfl⟩: ∃ m,n=m+1:=⟨n - 1,by have:=fin_after g (h.succ h1 h2);omega⟩
          unfold aroundF;exact List.mem_cons_self ..
        rcases List.mem_cons.1 hy with hy | hy
        · rw [hy];exact .inr (.inr (List.mem_cons_of_mem _ hn))
        · rcases aroundF_clo g n (k+1) (by omega) (h.succ h1 h2) y hy with h | h | h
          · exact .inl h
          · exact .inr (.inl h)
          · exact .inr (.inr (List.mem_cons_of_mem _ h))
theorem aroundF_all {x:tabE.T} {b:Int} (P:Int→Prop) (hs: ∀ c,P c→0≤tAfter x c→P (tAfter x c)): ∀ n c,P c→∀ y∈aroundF x b n c,P y
  | 0,c,_,y,hy=>by cases hy
  | n + 1,c,h,y,hy=>by
    unfold aroundF at hy
    split at hy
    · rw [List.mem_singleton.1 hy];exact h
    · split at hy
      · rw [List.mem_singleton.1 hy];exact h
      · rcases List.mem_cons.1 hy with hy | hy
        · rw [hy];exact h
        · exact aroundF_all P hs n _ (hs c h (by omega)) y hy
theorem firstF_ends {x:tabE.T} (g:Good x) {c0:Int} : ∀ n k,k+n=30000→FInv (tBefore x) c0 k→∃ m,FInv (tBefore x) c0 m∧
    ((firstF x c0 n (iter (tBefore x) c0 k)=(iter (tBefore x) c0 m,true)∧tBefore x (iter (tBefore x) c0 m)<0)∨(firstF x c0 n (iter (tBefore x) c0 k)=(c0,false)∧tBefore x (iter (tBefore x) c0 m)=c0))
  | 0,k,e,h=>by have:=fin_before g h;omega
  | n + 1,k,e,h=>by
    unfold firstF
    by_cases h1:tBefore x (iter (tBefore x) c0 k)<0
    · rw [if_pos h1];exact ⟨k,h,.inl ⟨rfl,h1⟩⟩
    · rw [if_neg h1]
      by_cases h2:tBefore x (iter (tBefore x) c0 k)=c0
      · rw [if_pos h2];exact ⟨k,h,.inr ⟨rfl,h2⟩⟩
      · rw [if_neg h2]
        exact firstF_ends g n (k+1) (by omega) (h.succ h1 h2)
theorem there_iff {x:tabE.T} {v:Int} :tThere x v=true↔0≤v∧v<x.1.1∧0≤tCorner x v:=by
  simp only [tThere,Bool.and_eq_true,decide_eq_true_eq]
theorem Full.there {x:tabE.T} (g:Full x) {v:Int} (h0:0≤v) (h1:v<x.1.1):tThere x v=true :=
  there_iff.2 ⟨h0,h1,(tHas_iff.1 (g.vtx v h0 h1).1).1⟩
theorem Full.around {x:tabE.T} (g:Full x) {v:Int} (h0:0≤v) (h1:v<x.1.1) :
    ∃ b,(firstR x v).1=b∧aroundL (some x) v=aroundF x b 30000 b∧tHas x b=true∧tVert x b=v∧b∈aroundL (some x) v∧(∀ y∈aroundL (some x) v,tHas x y=true∧tVert x y=v)∧
    (∀ y∈aroundL (some x) v,0≤tAfter x y→tAfter x y∈aroundL (some x) v)∧(∀ y∈aroundL (some x) v,0≤tBefore x y→tBefore x y∈aroundL (some x) v)∧
    (((firstR x v).2=true∧tBefore x b<0)∨((firstR x v).2=false∧∀ y∈aroundL (some x) v,0≤tAfter x y)):=by
  obtain ⟨k1,k2⟩:=g.vtx v h0 h1
  have e:=aroundL_eq (x:=x) h0 h1 (tHas_iff.1 k1).1
  obtain ⟨m,hm,hend⟩:=firstF_ends g.toGood (c0:=tCorner x v) 30000 0 (by omega) (fun j a b=>by omega)
  have hend:(firstR x v=(iter (tBefore x) (tCorner x v) m,true)∧tBefore x (iter (tBefore x) (tCorner x v) m)<0)∨(firstR x v=(tCorner x v,false)∧tBefore x (iter (tBefore x) (tCorner x v) m)=tCorner x v):=hend
  have itok: ∀ j,j≤m→tHas x (iter (tBefore x) (tCorner x v) j)=true∧tVert x (iter (tBefore x) (tCorner x v) j)=v:=fun j=>by
    induction j with
    | zero=>exact fun _=>⟨k1,k2⟩
    | succ j ih =>
      intro hj
      have hp:0≤tBefore x (iter (tBefore x) (tCorner x v) j):=(hm (j+1) (by omega) hj).1
      exact ⟨(g.before_has hp).2.1,(g.before_v hp).1.trans (ih (by omega)).2⟩
  have hb:tHas x (firstR x v).1=true∧tVert x (firstR x v).1=v:=by
    rcases hend with ⟨h,_⟩ | ⟨h,_⟩
    · rw [h];exact itok m (Nat.le_refl _)
    · rw [h];exact ⟨k1,k2⟩
  have hin:(firstR x v).1∈aroundL (some x) v:=by rw [e];unfold aroundF;exact List.mem_cons_self ..
  have hall: ∀ y∈aroundL (some x) v,tHas x y=true∧tVert x y=v:=by
    rw [e]
    exact aroundF_all _ (fun c hc ha=>⟨(g.after_has ha).2.1,(g.after_v ha).1.trans hc.2⟩) _ _ hb
  have haft: ∀ y∈aroundL (some x) v,0≤tAfter x y→tAfter x y∈aroundL (some x) v:=fun y hy ha=>by
    rw [e] at hy
    rcases aroundF_clo g.toGood 30000 0 rfl (fun j a b=>by omega) y hy with h | h | h
    · omega
    · rw [h];exact hin
    · rw [e];exact h
  have hcyc:(firstR x v).2=false→∀ y∈aroundL (some x) v,0≤tAfter x y∧∃ j,j≤m∧y=iter (tBefore x) (tCorner x v) j:=fun hf=>by
    rcases hend with ⟨h,_⟩ | ⟨h,hr⟩
    · rw [h] at hf;cases hf
    · have key: ∀ j,j≤m→0≤tAfter x (iter (tBefore x) (tCorner x v) j)∧∃ i,i≤m∧tAfter x (iter (tBefore x) (tCorner x v) j)=iter (tBefore x) (tCorner x v) i:=fun j hj=>by
        cases j with
        | zero =>
          have h0:0≤tCorner x v:=(tHas_iff.1 k1).1
          have:=g.after_before (c:=iter (tBefore x) (tCorner x v) m) (by rw [hr];exact h0)
          rw [hr] at this
          show 0≤tAfter x (tCorner x v)∧∃ i,i≤m∧tAfter x (tCorner x v)=_
          rw [this]
          exact ⟨(tHas_iff.1 (itok m (Nat.le_refl _)).1).1,m,Nat.le_refl _,rfl⟩
        | succ j =>
          have hp:0≤tBefore x (iter (tBefore x) (tCorner x v) j):=(hm (j+1) (by omega) hj).1
          have:tAfter x (iter (tBefore x) (tCorner x v) (j+1))=iter (tBefore x) (tCorner x v) j:=g.after_before hp
          rw [this]
          exact ⟨(tHas_iff.1 (itok j (by omega)).1).1,j,by omega,rfl⟩
      have: ∀ y∈aroundL (some x) v,∃ j,j≤m∧y=iter (tBefore x) (tCorner x v) j:=by
        rw [e]
        refine aroundF_all _ (fun c ⟨j,hj,hc⟩ _=> ?_) _ _ ⟨0,by omega,by rw [h];rfl⟩
        obtain ⟨_,i,hi,e⟩:=key j hj
        exact ⟨i,hi,by rw [hc];exact e⟩
      intro y hy
      obtain ⟨j,hj,ej⟩:=this y hy
      exact ⟨by rw [ej];exact (key j hj).1,j,hj,ej⟩
  have hbef : ∀ y∈aroundL (some x) v,0≤tBefore x y→tBefore x y∈aroundL (some x) v:=by
    have hP : ∀ y∈aroundL (some x) v,(0≤tBefore x y→tBefore x y∈aroundL (some x) v):=by
      intro y hy
      have:y∈aroundL (some x) v∧(0≤tBefore x y→tBefore x y∈aroundL (some x) v):=by
        have hy2:=hy
        rw [e] at hy2
        refine aroundF_all (fun y=>y∈aroundL (some x) v∧(0≤tBefore x y→tBefore x y∈aroundL (some x) v)) (fun c ⟨hc,_⟩ ha=>⟨haft c hc ha,fun _=>by rw [g.before_after ha];exact hc⟩) _ _ ⟨hin,fun hp=> ?_⟩ y hy2
        rcases hend with ⟨h,hn⟩ | ⟨h,hr⟩
        · rw [h] at hp;exact absurd hp (by show ¬ 0≤tBefore x (iter (tBefore x) (tCorner x v) m);omega)
        · -- the walk forward: some round its end is the first again
          have hc:=hcyc (by rw [h])
          have hz:tBefore x (tCorner x v)∈aroundL (some x) v:=by
            -- each iterate is in it
            have back: ∀ i j,j+i=m→iter (tBefore x) (tCorner x v) j∈aroundL (some x) v:=fun i=>by
              induction i with
              | zero =>
                intro j hj
                have hj:j=m:=by omega
                subst hj
                have h0:0≤tCorner x v:=(tHas_iff.1 k1).1
                have e1:=g.after_before (c:=iter (tBefore x) (tCorner x v) j) (by rw [hr];exact h0)
                rw [hr] at e1
                have:=haft (tCorner x v) (by rw [h] at hin;exact hin) (by rw [e1];exact (tHas_iff.1 (itok j (Nat.le_refl _)).1).1)
                rw [e1] at this;exact this
              | succ i ih =>
                intro j hj
                have h2:=ih (j+1) (by omega)
                have hp:0≤tBefore x (iter (tBefore x) (tCorner x v) j):=(hm (j+1) (by omega) (by omega)).1
                have e1:tAfter x (iter (tBefore x) (tCorner x v) (j+1))=iter (tBefore x) (tCorner x v) j:=g.after_before hp
                have:=haft _ h2 (by rw [e1];exact (tHas_iff.1 (itok j (by omega)).1).1)
                rw [e1] at this;exact this
            by_cases hm0:m=0
            · subst hm0
              have hr:tBefore x (tCorner x v)=tCorner x v:=hr
              rw [hr];rw [h] at hin;exact hin
            · exact back (m - 1) 1 (by omega)
          rw [h];exact hz
      exact this.2
    exact hP
  refine ⟨_,rfl,e,hb.1,hb.2,hin,hall,haft,hbef,?_⟩
  rcases hend with ⟨h,hn⟩ | ⟨h,hr⟩
  · exact .inl ⟨by rw [h],by rw [h];exact hn⟩
  · exact .inr ⟨by rw [h],fun y hy=>(hcyc (by rw [h]) y hy).1⟩
theorem Full.around_all {x:tabE.T} (g:Full x) {c:Int} (hc:tHas x c=true):c∈aroundL (some x) (tVert x c):=by
  have hv:=tVert_in g.fit hc
  obtain ⟨b,_,_,hb1,hb2,hb3,hall,haft,hbef,_⟩:=g.around hv.1 hv.2
  obtain ⟨v,hv2⟩: ∃ v:Nat,tVert x c=v:=⟨(tVert x c).toNat,by omega⟩
  rw [hv2] at hall haft hbef hb2 hb3 ⊢
  have hn:(v:Int)<x.1.1:=by omega
  have tb:=cor_tri hb1
  have tc:=cor_tri hc
  rw [hb2] at tb
  rw [hv2] at tc
  have hQ:=g.pin v hn (fun i=> ∃ y∈aroundL (some x) v,(y / 3).toNat=i) (fun i j hi hj hvi hvj ⟨w,hw,hwi,hwj⟩ ⟨y,hy,ey⟩=>by
    obtain ⟨hy1,hy2⟩:=hall y hy
    obtain ⟨d,d1,d2,d3⟩:=tri_cor hj hvj
    -- the other vertex, in both
    have two: ∀ {y:Int},tHas x y=true→tVert x y=v→hasV (x.1.2.getD (y / 3).toNat (0,0,0)) w→w=tVert x (tNext x y)∨w=tVert x (tPrev x y):=fun {y} h1 h2 h3=>by
      obtain ⟨a,a1,a2,a3⟩:=tri_cor (cor_tri h1).1 h3
      have i1:=tHas_iff.1 h1
      have i2:=tHas_iff.1 a1
      have:a=y∨a=tNext x y∨a=tPrev x y:=by
        rw [tNext_t h1,tPrev_t h1];unfold trn;omega
      rcases this with e | e | e
      · subst e;exact absurd (a3.symm.trans h2) hw
      · subst e;exact .inl a3.symm
      · subst e;exact .inr a3.symm
    have wy:=two hy1 hy2 (by rw [ey];exact hwi)
    have wd:=two d1 d3 (by rw [d2];exact hwj)
    refine ⟨d,?_,d2⟩
    have evd:tVert x y=tVert x d:=hy2.trans d3.symm
    have nn:=(tHas_iff.1 d1).1
    rcases wy with wy | wy<;>rcases wd with wd | wd
    · rw [← g.same hy1 d1 evd (wy.symm.trans wd)];exact hy
    · have:=g.before_is hy1 d1 evd.symm (wd.symm.trans wy)
      have h2:=hbef y hy (by rw [this];exact nn)
      rw [this] at h2;exact h2
    · have:=g.after_is hy1 d1 evd.symm (wd.symm.trans wy)
      have h2:=haft y hy (by rw [this];exact nn)
      rw [this] at h2;exact h2
    · rw [← g.sameP hy1 d1 evd (wy.symm.trans wd)];exact hy) _ tb.1 tb.2 ⟨b,hb3,rfl⟩ _ tc.1 tc.2
  obtain ⟨y,hy,ey⟩:=hQ
  obtain ⟨hy1,hy2⟩:=hall y hy
  have i1:=tHas_iff.1 hc
  have i2:=tHas_iff.1 hy1
  have:y=c∨y=tNext x c∨y=tPrev x c:=by
    rw [tNext_t hc,tPrev_t hc];unfold trn;omega
  have hne:=g.ne hc
  rcases this with e | e | e
  · rw [← e];exact hy
  · rw [e] at hy2;exact absurd (hv2.trans hy2.symm) hne.1
  · rw [e] at hy2;exact absurd (hv2.trans hy2.symm) hne.2.1
end S1
open Go Go.Vm Go.Proofs
namespace S1
theorem sortI_ok {l:List Int} (h:l.Pairwise (·≤·)):sortI l=l:=by
  unfold sortI
  exact List.mergeSort_of_pairwise (h.imp fun h=>by simpa using h)
theorem sortI_perm (l:List Int):(sortI l).Perm l:=by unfold sortI;exact List.mergeSort_perm _ _
theorem sortI_sorted (l:List Int):(sortI l).Pairwise (·≤·):=by
  have:=List.pairwise_mergeSort (le:=fun x y:Int=>decide (x≤y)) (fun a b c h1 h2=>by simp at *;omega) (fun a b=>by simp;omega) l
  unfold sortI
  exact this.imp fun h=>by simpa using h
theorem sorted_eq {l m:List Int} (hp:l.Perm m) (h1:l.Pairwise (·≤·)) (h2:m.Pairwise (·≤·)):l=m :=
  hp.eq_of_pairwise (fun a b _ _ h1 h2=>by omega) h1 h2
def srt3 (a b c:Int):List Int:=if a≤b then (if b≤c then [a,b,c] else if a≤c then [a,c,b] else [c,a,b]) else (if a≤c then [b,a,c] else if b≤c then [b,c,a] else [c,b,a])
theorem sortI_3 (a b c:Int):sortI [a,b,c]=srt3 a b c:=by
  refine sorted_eq ((sortI_perm _).trans ?_) (sortI_sorted _) ?_
  · unfold srt3
    repeat' split
    · exact .refl _
    · exact .cons _ (.swap ..)
    · exact (List.Perm.cons _ (.swap ..)).trans (.swap ..)
    · exact .swap ..
    · exact (List.Perm.swap ..).trans (.cons _ (.swap ..))
    · exact ((List.Perm.swap ..).trans (.cons _ (.swap ..))).trans (.swap ..)
  · unfold srt3
    repeat' split
    all_goals simp;omega
def kMir' (t:P3):List P3:=[((srt3 t.1 t.2.1 t.2.2).getD 0 0,(srt3 t.1 t.2.1 t.2.2).getD 1 0,(srt3 t.1 t.2.1 t.2.2).getD 2 0)]
theorem kMir_eq:kMir=kMir':=by
  funext t
  unfold kMir kMir' s3
  rw [sortI_3]
def allR' (s:Int×List P3):List Wit:=firstW [indexR s,dgL s.2 s.2.length,(prS kTwice 3 s.2 s.2.length).2.2,(prS kMir' 4 s.2 s.2.length).2.2,loneR s,pinR s]
theorem allR_eq (s:Int×List P3):allR s=allR' s:=by unfold allR allR';rw [kMir_eq]
def chkR' (s:Int×List P3):Wit:=(allR' s).headD (0,0,0)
theorem chkR_eq (s:Int×List P3):chkR s=chkR' s:=by unfold chkR chkR';rw [allR_eq]
theorem newO_ok {s:Int×List P3} (h:(chkR' s).1=0):newO s=some (newT s):=by unfold newO;rw [if_pos (by rw [chkR_eq];exact h)]
theorem newO_good {s:Int×List P3} : ∀ x,newO s=some x→Good x:=fun x h=>by
  unfold newO at h
  split at h
  · rename_i hc;cases h;exact good_new (cert_of hc)
  · cases h
end S1
