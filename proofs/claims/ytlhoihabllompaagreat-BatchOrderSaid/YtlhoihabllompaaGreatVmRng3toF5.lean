/- A part of the proofs of the laws. -/
import Derived.Test.YtlhoihabllompaaGreatVmRngMtoVmSeq
import Derived.Test.YtlhoihabllompaaGreatT22toF5a
import Derived.Test.YtlhoihabllompaaGreatT12toVmRng
import Derived.Test.YtlhoihabllompaaGreatT0toVmInl
set_option linter.unusedSimpArgs false
set_option linter.unusedVariables false
set_option maxHeartbeats 8000000
set_option maxRecDepth 100000
/- Functions with ranges over functions at their top that hand rows over. -/
namespace Go.Vm
open Go.RowKit
def zQu (T:Tab) (SQ:zDE) (fn:Func) (args:List AV) (R:AV->List Ob->Prop):Prop :=
 match fn.body with
 | some c=>(St.init args).forceAll fun s=>qC T SQ c s (zS5 T fn R)
 | none=>False
section
variable {P:Program} {T:Tab} {SQ:zDE} {B B0:Base} {w w':World} {σ τ:Sig} {β:yR} {st:St} {tmps:Array Value} {N:Nat} {a:Act}
theorem zPB {fn:Func} {st':St} {R:Ending->World->Prop}
 (hend: ∀ (B1:Base) (σ1:Sig) (β1:yR) (w':World),B1.w=w->zTG ⟨w,σ,[]⟩ B1.sg->GG B1 σ1 β1 st' tmps w'->∃ v,(results fn tmps).run P w'= .ok v w'/\R (.returned v) w') (hag:Ag σ w) :
 ∀ (Ds:List Nat) (B1:Base) (σ1:Sig) (β1:yR) (w':World),Ds.Nodup->(∀ D∈Ds,B1.sg D=some (.deferred (some []))/\w.heap.size<=D)->B1.w=w->zTG ⟨w,σ,[]⟩ B1.sg->GG B1 σ1 β1 st' tmps w'->
   LeavesInM (FR none) 0 P fn tmps R (Ds.map mark) .returning w':=by
 intro Ds
 induction Ds with
 | cons D r ih =>
   intro B1 σ1 β1 w' hn hD hw hgr hg;obtain ⟨hn1,hn2⟩:=List.nodup_cons.1 hn;obtain ⟨d1,d2⟩:=hD D (zY ..);rw [Base.relock B1 d1] at hg;obtain ⟨_,hl2,_⟩:=hg.locked rfl;have zDU: ∀ b,b≠D->(B1.sg.del D) b=B1.sg b:=fun b hb=>by unfold Sig.del;rw [if_neg hb]
   obtain ⟨hg2,_⟩:=hg.unlock rfl (by show B1.w.heap.size<=D;rw [hw];exact d2) (by show (B1.sg.del D) D=none;unfold Sig.del;rw [if_pos rfl]) (.deferred none);refine ⟨by simp,.inl ⟨D,_,rfl,run_takeDeferred hl2,ih {B1 with sg:=B1.sg.del D} _ _ _ hn2 (fun D' hD'=> ?_) hw ⟨fun b o e=> ?_,fun b hb=> ?_⟩ hg2⟩⟩
   ·obtain ⟨k1,k2⟩:=hD D' (zQ _ hD');exact ⟨by show (B1.sg.del D) D'=_;rw [zDU _ (fun e=>hn1 (e▸hD'))];exact k1,k2⟩
   ·have hb:b≠D:=fun hb=>by subst hb;have:=hag.lt e;omega
    show ∃ o',(B1.sg.del D) b=some o'/\_;rw [zDU b hb];exact hgr.1 b o e
   ·have hb:b<w.heap.size:=hb;show (B1.sg.del D) b=_;rw [zDU b (by omega)];exact hgr.2 b hb
 | nil =>
   intro B1 σ1 β1 w' _ _ hw hgr hg;exact hend B1 σ1 β1 w' hw hgr hg
theorem zTr (R:jM P T) (hSQ:zDb P SQ) {f:FuncId} {fn:Func} {c:Code} (hf:P.funcs[f]? =some fn) (hb:fn.body=some c) (hok:zAi fn.ntmps c=true)
 {args:List AV} (hl:args.length<=fn.ntmps) {q:Option Prop} {u:AV} {us:List Ob} (h:zBl args->Opt q->zQu T SQ fn args (fun v obs=>v=u/\obs=us)):zCv P f args (none,q,u,us):=by
 intro σ vals w hag hv;refine ⟨trivial,fun hq=> ?_⟩;have hga:=zJA (N:=fn.ntmps) hag hv hl;have hk:=h (zCF hv) hq;simp only [zQu,hb,St.forceAll_eq] at hk;refine (callsIn_of_wp_marks (F:=Fence.wide) (n:=0) hf hb trivial ?_).calls (fun _ _ hd=>by cases hd);rw [<- FR.none];refine zOJ (B0:=⟨w,σ,[]⟩) R hSQ c hok ⟨rfl,⟨Sig.le.refl _,fun _ _=>rfl⟩,[],rfl,List.nodup_nil,fun D hD=>by cases hD⟩ hga hk fun e B1 st' a' w' hm hp h'=> ?_
 have fin:(match fn.results.toList.all (zGU T st')&&(nodupB (zAv (zAW T fn st').parts)&&zMZ st'.hp (zAv (zAW T fn st').parts)) with
  | true=>(zAW T fn st').mapAS (zTE (zAv (zAW T fn st').parts))=u/\zJj st'.hp (zAv (zAW T fn st').parts)=us
  | false=>False)->LeavesInM (FR none) 0 P fn a'.tmps (fun e w'=> ∃ v σ' β',e= .returned v/\σ.le σ'/\Ag σ' w'/\
  (∀ b,b<w.heap.size->σ' b=σ b)/\y6 σ' β' u v/\zBs σ' w.heap.size w' us β'/\Below w.heap.size w w') a'.defers .returning w':=by
  intro hu;split at hu
  case h_2=>exact hu.elim
  rename_i hallok;rw [zC,zC] at hallok;obtain ⟨hallok,hnd,hrows⟩:=hallok;obtain ⟨σ1,β1,hg⟩:=h'.gg;obtain ⟨Ds,e1,e2,e3⟩:=hm.ds;rw [h'.defers,e1];refine zPB (w:=w) (σ:=σ) (st':=st') (fun B1 σ1 β1 w' hw hgr hg=> ?_) hag Ds B1 σ1 β1 w' e2 e3 hm.w hm.grew hg;have hsl:σ.le σ1:=Sig.le.trans hgr.1 hg.grew.1;have hsb: ∀ b,b<w.heap.size->σ1 b=σ b:=fun b hb=>(hg.grew.2 b (by rw [hw];exact hb)).trans (hgr.2 b hb)
  have hbel:Below w.heap.size w w':=by have:=hg.bel;rw [hw] at this;exact this
  obtain ⟨vs,hrun,hall⟩:=zB5 (P:=P) (w:=w') (fn:=fn) (tmps:=a'.tmps) (Q:=fun r v=>y6 σ1 β1 (zEW T st' r) v) (fun r hr=>by
   have hro:=zJ.1 hallok r hr;cases r with
   | tmp t=>exact ⟨_,rfl,hg.env t⟩
   | cell a t =>
     simp only [zGU] at hro;simp only [zEW];have hx:=hg.env a;split at hro
     ·rename_i id i k hea;rw [hea] at hx;split at hro
      ·rename_i v hv;obtain ⟨p,_,hptr,_⟩:=hx;obtain ⟨_,hrun⟩:=zBf (w:=w') R.ty R.one hg.mem (t:=t) (hg.env a) (p:=none) (q:=none) (v:=v) (by rw [hea];exact hv);obtain ⟨val,h1,h2⟩:=hrun trivial;refine ⟨val,?_,h2⟩;rw [hptr] at h1 ⊢;rw [zBL] at h1;simp only [asAddr,Sem.run_bind,Sem.run_pure,Result.andThen_ok];exact h1
      ·cases hro
     ·cases hro)
  refine ⟨_,hrun,_,σ1,(zAv (zAW T fn st').parts).map fun i=>(β1[i]?).getD none,rfl,hsl,hg.mem.ag,hsb,?_,?_,hbel⟩
  ·exact ((zG8 hall).mapAS fun a v ha=>y5.ren (ids:=zAv (zAW T fn st').parts) ha) |> fun h=>by rw [hu.1] at h;exact h
  ·have:=zFc (w:=w') hg.mem.ob (fun id ob p hi hp=>by have:=hg.sep id ob p hi hp;rw [hw] at this;exact this) _ hnd hrows;rw [hu.2] at this;exact this
 cases e with
 | normal=>simp only [zS5,AV.force_eq] at hp;exact fin hp
 | ret=>simp only [zS5,AV.force_eq] at hp;exact fin hp
 | _=>exact hp.elim
end
end Go.Vm
open Go Go.Vm Go.Proofs
namespace S1
theorem z07 (x:yI.T) (v:Int) (g:Good x):zQu ⟨tyL,[(90,zFO),(121,zKt),(122,zLy),(130,zGS),(94,zC4)],[]⟩ z8P Tryz.f142 [(ETy.pt yI).av (some x),y8.av v] (fun r obs=>r= .s (.own 0 0 (zCz x v).length)/\obs=[.row y8 3 (zCz x v)]):=by
 obtain ⟨hl,ha⟩:=zGo g v;have hd:=zY0 ha;have hL:=zW8 ha (yU (some x) v).length;have ho:=zYg x (yU (some x) v);have ho2:=ho _ (zI _)
 repeat' (conv=>whnf
          first|done|refine qN ?_|apply qH|refine qG fun _=> ?_|apply qB|apply qa|apply qo|refine qe (fun _=> ?_) (fun _=> ?_)|refine qn (fun _=> ?_) (fun _=> ?_)|refine qd (fun _=> ?_) (fun _=> ?_)|apply qt|refine qi (fun _=> ?_) (fun _=> ?_)|refine zB (yU (some x) v) (zA (yJ.out ?_) (zB (zPP x (yU (some x) v)) ?_))|(refine zA (fun X=> ?_) (fun X=> ?_))|(refine zA (zA ?_ (zA ?_ rfl)) (fun k hk=> ?_))|(refine zA ?_ (zA ?_ rfl))|refine zA rfl ?_|apply qE|apply qO|exact zO|apply qq|apply qs|refine qK (by kernel_rfl) ?_|apply qr)
 all_goals try first|refine qz ?_|apply qz5
 all_goals try simp only [z6,zS,yE,zZ,qn1,z7,qn2,zX,ETy.dflt,qn3,qn4,Int.reduceToNat,Int.reduceAdd,Int.reduceSub,Int.reduceNeg,Nat.reduceAdd,zD] at *
 ·exact yJ.intro ⟨rfl,some x,v,rfl,fun y e=>by cases e;exact g,rfl⟩
 ·exact yJ.intro (Int.le_trans (hd k) (by decide))
 ·exact yJ.intro (Int.le_trans (zMI g _) (by decide))
 ·have:=ho k (Nat.le_of_lt hk);refine yJ.intro ?_;omega
 ·rw [zRd _ _ _ hk,zN];exact jL.intro rfl
 ·exact zRd _ _ _ hk
 ·exact yJ.intro ⟨g,hL⟩
 ·exact yJ.intro (Int.le_trans hL (by decide))
 ·exact yJ.intro (Int.le_trans (zLz g _) (by decide))
 ·refine yJ.intro ?_;omega
 ·rename_i h1 h2;unfold zCz;rw [if_pos ⟨h1,h2⟩,zN];rfl
 ·rename_i h1 h2;unfold zCz;rw [if_pos ⟨h1,h2⟩]
 ·rename_i h1 h2;unfold zCz;rw [if_neg (fun e=>h2 e.2),List.append_nil]
 ·rename_i h1 h2;unfold zCz;rw [if_neg (fun e=>h2 e.2),List.append_nil]
 ·rename_i h1;unfold zCz;rw [if_neg (fun e=>h1 e.1),List.append_nil]
 ·rename_i h1;unfold zCz;rw [if_neg (fun e=>h1 e.1),List.append_nil]
theorem zWm (v:Int):zQu ⟨tyL,[(90,zFO),(121,zKt),(122,zLy),(130,zGS),(94,zC4)],[]⟩ z8P Tryz.f142 [(ETy.pt yI).av none,y8.av v] (fun r obs=>r= .s (.own 0 0 0)/\obs=[.row y8 3 []]):=by
 repeat' (conv=>whnf
          first|done|refine qN ?_|apply qH|refine qG fun _=> ?_|apply qB|apply qa|apply qo|refine qe (fun _=> ?_) (fun _=> ?_)|refine qn (fun _=> ?_) (fun _=> ?_)|refine qd (fun _=> ?_) (fun _=> ?_)|apply qt|refine qi (fun _=> ?_) (fun _=> ?_)|refine zB [] (zA (yJ.out ?_) (zB z7i ?_))|(refine zA (fun X=> ?_) (fun X=> ?_))|(refine zA (zA ?_ (zA ?_ rfl)) (fun k hk=>absurd hk (Nat.not_lt_zero _)))|refine zA rfl ?_|apply qE|apply qO|exact zO|apply qq|apply qs|refine qK (by kernel_rfl) ?_|apply qr)
 all_goals try first|refine qz ?_|apply qz5
 all_goals try simp only [z6,zS,yE,zZ,qn1,z7,qn2,zX,ETy.dflt,qn3,qn4,Int.reduceToNat,Int.reduceAdd,Int.reduceSub,Int.reduceNeg,Nat.reduceAdd,zD] at *
 exact yJ.intro ⟨rfl,none,v,rfl,fun y e=>(by cases e),rfl⟩
def zXZ:List AV->Option zKQ:=zCr (.pt yI) y8 (fun o v=>some (none,some (∀ x,o=some x->Good x),.s (.own 0 0 (zBh o v).length),[.row y8 3 (zBh o v)]))
theorem z1E:zDM Tryz.prog 142 zXZ:=⟨zSK fun o v r h=>by
 cases h;cases o with
 | none=>exact zTr (yN (fn:=[(90,zFO),(121,zKt),(122,zLy),(130,zGS),(94,zC4)]) (fr:=[]) ⟨zI1,zLj,zLU,zHw,zEF,trivial⟩ trivial) z9Z Tryz.func142 rfl (by kernel_rfl) (zU rfl) fun _ _=>zWm v
 | some x=>exact zTr (yN (fn:=[(90,zFO),(121,zKt),(122,zLy),(130,zGS),(94,zC4)]) (fr:=[]) ⟨zI1,zLj,zLU,zHw,zEF,trivial⟩ trivial) z9Z Tryz.func142 rfl (by kernel_rfl) (zU rfl) fun _ h=>z07 x v (h x rfl),_,Tryz.func142,by kernel_rfl,by kernel_rfl⟩
end S1
open Go Go.Vm Go.Proofs
namespace S1
def z7r {ρ:Type} (e b c:ETy) (f:e.T->b.T->c.T->Option ρ):List AV->Option ρ :=
 zOw (.pt e) b c (fun o y z=>match o with|some x=>f x y z|none=>none)
theorem z1e {P:Program} {e b c:ETy} {f:e.T->b.T->c.T->Option Res} {n:FuncId} (h: ∀ x y z r,f x y z=some r->zCn P n [(ETy.pt e).av (some x),b.av y,c.av z] r): ∀ args r,z7r e b c f args=some r->zCn P n args r :=
 zDZ fun o y z r hr=>by cases o with|none=>cases hr|some x=>exact h x y z r hr
def zPC (v:Int):List Int->Nat->Int
 | [],_=> -1
 | a::r,i=>if v=a then (i:Int) else zPC v r (i+1)
def z37 (v:Int) (l:List Int):Spec Nat where
 inv x:=x<=l.length/\zPC v l 0=zPC v (l.drop x) x
 live x:=[(8,.s (.int .i64 x))]
 keep:=[0,1,7]
 heap _:=[]
 keepH:=[]
 mu x:=l.length - x
theorem zUF {fn} (l:List Int) (v:Int):zAG ⟨tyL,fn,[]⟩ Tryz.f102 [(ETy.sl y8).av l,y8.av v] (fun r=>r= .s (.int .i64 (zPC v l 0))):=by
 repeat' (conv=>whnf
          first|done|refine qN ?_|apply qH|refine qG fun _=> ?_|apply qB|apply qa|apply qo|refine qe (fun _=> ?_) (fun _=> ?_)|refine qn (fun _=> ?_) (fun _=> ?_)|refine qd (fun _=> ?_) (fun _=> ?_)|apply qt|refine qi (fun _=> ?_) (fun _=> ?_)|(refine zaB 2 rfl (z37 v l) (0) ?_ ?_ ?_ fun x hx=> ?_)|with_reducible refine zaA (z37 _ _) (x+1) ?_ ?_ ?_ ?_|refine zA rfl ?_|apply qE|apply qO|exact zO|apply qq|apply qs|refine qK (by kernel_rfl) ?_|apply qr)
 all_goals try first|refine qz ?_|apply qz5
 all_goals try simp only [z6,zS,yE,zZ,qn1,z7,qn2,zX,ETy.dflt,qn3,qn4,Int.reduceToNat,Int.reduceAdd,Int.reduceSub,Int.reduceNeg,Nat.reduceAdd,zD,z37] at *
 ·exact yJ.intro ⟨Nat.zero_le _,rfl⟩
 ·rename_i h1 h2;rw [hx.2,zBU 0 h1,zPC,if_pos h2]
 ·rename_i h1 h2;exact yJ.intro ⟨by omega,by rw [hx.2,zBU 0 h1,zPC,if_neg h2]⟩
 ·exact yJ.intro (by omega)
 ·rw [hx.2,zE9 (by assumption)];rfl
def zF6:List AV->Option Res:=zCr (.sl y8) y8 (fun l v=>some (none,none,.s (.int .i64 (zPC v l 0))))
theorem zJD:qM Tryz.prog 102 zF6:=⟨jD fun l v r h=>by cases h;exact qL (yN (fn:=[]) (fr:=[]) trivial trivial) Tryz.func102 (by kernel_rfl) fun _ _=>zUF l v,_,Tryz.func102,by kernel_rfl,by kernel_rfl⟩
def zDv (v:Int) (l:List Int):Bool:=decide (zPC v l 0>=0)
theorem zPD (l:List Int) (v:Int):zAG ⟨tyL,[(102,zF6)],[]⟩ Tryz.f103 [(ETy.sl y8).av l,y8.av v] (fun r=>r= .s (.bool (zDv v l))):=by
 repeat' (conv=>whnf
          first|done|refine qN ?_|apply qH|refine qG fun _=> ?_|apply qB|apply qa|apply qo|refine qe (fun _=> ?_) (fun _=> ?_)|refine qn (fun _=> ?_) (fun _=> ?_)|refine qd (fun _=> ?_) (fun _=> ?_)|apply qt|refine qi (fun _=> ?_) (fun _=> ?_)|refine zA rfl ?_|apply qE|apply qO|exact zO|apply qq|apply qs|refine qK (by kernel_rfl) ?_|apply qr)
 all_goals try first|refine qz ?_|apply qz5
 all_goals try simp only [z6,zS,yE,zZ,qn1,z7,qn2,zX,ETy.dflt,qn3,qn4,Int.reduceToNat,Int.reduceAdd,Int.reduceSub,Int.reduceNeg,Nat.reduceAdd,zD,zDv] at *
def zAe:List AV->Option Res:=zCr (.sl y8) y8 (fun l v=>some (none,none,.s (.bool (zDv v l))))
theorem zCU:qM Tryz.prog 103 zAe:=⟨jD fun l v r h=>by cases h;exact qL (yN (fn:=[(102,zF6)]) (fr:=[]) ⟨zJD,trivial⟩ trivial) Tryz.func103 (by kernel_rfl) fun _ _=>zPD l v,_,Tryz.func103,by kernel_rfl,by kernel_rfl⟩
def zDf (x:yI.T) (a b:Int):List Int:=(if qJ x (a,b)>=0 then [yS x (qJ x (a,b))] else [])++(if qJ x (b,a)>=0 then [yS x (qJ x (b,a))] else [])
theorem zWN {x:yI.T} (g:Good x) (e:Int×Int):qJ x e<=1000000000:=by
 unfold qJ;cases h:jS .arr2 x.2.1 e with
 | none=>decide
 | some c =>
   have:=yH.1 (g.map _ _ h).1;have:=g.fit.2.2.1;exact (show @LE.le Int _ c (1000000000:Int) by omega)
theorem zTW (x:yI.T) (a b:Int) (g:Good x):zAG ⟨tyL,[(78,zEC),(94,zC4)],[]⟩ Tryz.f109 [(ETy.pt yI).av (some x),y8.av a,y8.av b] (fun v=>v= .s (.sl y8 (zDf x a b))):=by
 have e0:(((List.replicate 2 ((0:Int),(0:Int))).set 0 (a,b)).set 1 (b,a)).getD 0 (0,0)=(a,b):=rfl;have e1:(((List.replicate 2 ((0:Int),(0:Int))).set 0 (a,b)).set 1 (b,a)).getD 1 (0,0)=(b,a):=rfl
 repeat' (conv=>whnf
          first|done|refine qN ?_|apply qH|refine qG fun _=> ?_|apply qB|apply qa|apply qo|refine qe (fun _=> ?_) (fun _=> ?_)|refine qn (fun _=> ?_) (fun _=> ?_)|refine qd (fun _=> ?_) (fun _=> ?_)|apply qt|refine qi (fun _=> ?_) (fun _=> ?_)|(refine qS 3 rfl ?_;refine Or.inl (zB (3) ?_))|refine zA rfl ?_|apply qE|apply qO|exact zO|apply qq|apply qs|refine qK (by kernel_rfl) ?_|apply qr)
 all_goals try first|refine qz ?_|apply qz5
 all_goals try simp only [z6,zS,yE,zZ,qn1,z7,qn2,zX,ETy.dflt,qn3,qn4,Int.reduceToNat,Int.reduceAdd,Int.reduceSub,Int.reduceNeg,Nat.reduceAdd,zD,e0,e1,zDf] at *
 all_goals first
  | exact yJ.intro (zWN g _)
  | exact yJ.intro (by decide)
  | (simp only [if_pos,if_neg, *,not_false_eq_true];rfl)
def zFw:List AV->Option Res:=z7r yI y8 y8 (fun x a b=>some (none,some (Good x),.s (.sl y8 (zDf x a b))))
theorem zKX:qM Tryz.prog 109 zFw:=⟨z1e fun x a b r h=>by cases h;exact qL (yN (fn:=[(78,zEC),(94,zC4)]) (fr:=[]) ⟨zFi,zEF,trivial⟩ trivial) Tryz.func109 (by kernel_rfl) fun _ h=>zTW x a b h,_,Tryz.func109,by kernel_rfl,by kernel_rfl⟩
end S1
open Go Go.Vm Go.Proofs
namespace S1
abbrev OS:=List Int×List Int
def ofC (x:yI.T) (k:Int) (j:Nat) (s:OS) (c:Nat):OS :=
 if 0<=zAI x (3*s.2.getD j 0+c)/\s.1.getD (zAI x (3*s.2.getD j 0+c) / 3).toNat 0<0 then
  (s.1.set (zAI x (3*s.2.getD j 0+c) / 3).toNat k,s.2++[zAI x (3*s.2.getD j 0+c) / 3]) else s
def ofJ (x:yI.T) (k:Int) (s:OS) (j:Nat):OS:=qA (ofC x k j) s 3
def bfs (x:yI.T) (k:Int):Nat->Nat->OS->OS
 | 0,_,s=>s
 | f+1,j,s=>if j<s.2.length then bfs x k f (j+1) (ofJ x k s j) else s
def ofI (x:yI.T) (s:List Int×Int) (i:Nat):List Int×Int :=
 if s.1.getD i 0>=0 then s else ((bfs x s.2 10000 0 (s.1.set i s.2,[(i:Int)])).1,s.2+1)
def ofL (x:yI.T) (i:Nat):List Int×Int:=qA (ofI x) (List.replicate x.1.2.length (-1),0) i
def ofR (x:yI.T):List Int:=(ofL x x.1.2.length).1
def unm:List Int->Nat
 | []=>0
 | a::r=>(if a<0 then 1 else 0)+unm r
theorem z1s: ∀ l:List Int,unm l<=l.length
 | []=>zI _
 | a::r=>by have:=z1s r;simp only [unm,yA];split<;>omega
theorem zQH {k:Int} (hk:0<=k): ∀ (l:List Int) (i:Nat),i<l.length->l.getD i 0<0->unm (l.set i k)+1=unm l
 | a::r,0,_,h=>by
   have h:a<0:=h;simp only [List.set_cons_zero,unm];rw [if_pos h,if_neg (by omega)];omega
 | a::r,i+1,hi,h=>by
   have:=zQH hk r i (by simpa using hi) (by simpa using h);simp only [List.set_cons_succ,unm];omega
structure OOk (n:Nat) (s:OS):Prop where
 len:s.1.length=n
 td: ∀ j,j<s.2.length->0<=s.2.getD j 0/\s.2.getD j 0<n
 cnt:s.2.length+unm s.1<=n
theorem z2E {x:yI.T} (g:Good x) {d:Int} (h:0<=zAI x d):zAI x d<3*(x.1.2.length:Int):=(yH.1 (g.opp h).2.1).2
theorem z7X {x:yI.T} (g:Good x) {k:Int} (hk:0<=k) {j:Nat} {s:OS} (h:OOk x.1.2.length s) (c:Nat):OOk x.1.2.length (ofC x k j s c):=by
 unfold ofC;split
 ·rename_i hc;have hi:=z2E g hc.1;refine ⟨by rw [List.length_set];exact h.len,fun j' hj=> ?_,?_⟩
  ·by_cases e:j'<s.2.length
   ·have:=h.td j' e
    have e2:(s.2++[zAI x (3*s.2.getD j 0+c) / 3]).getD j' 0=s.2.getD j' 0:=by
     rw [zR,List.getElem?_append_left e,<- zR]
    show 0<=(s.2++_).getD j' 0/\_;rw [e2];exact this
   ·have hj:j'<(s.2++[zAI x (3*s.2.getD j 0+c) / 3]).length:=hj;rw [zN,List.length_singleton] at hj;have e3:j'=s.2.length:=by omega
    subst e3
    have e2:(s.2++[zAI x (3*s.2.getD j 0+c) / 3]).getD s.2.length 0=zAI x (3*s.2.getD j 0+c) / 3:=by
     rw [zR,List.getElem?_append_right (zI _)];simp
    show 0<=(s.2++_).getD s.2.length 0/\_;rw [e2];omega
  ·have:=zQH hk s.1 _ (by rw [h.len];omega) hc.2;have h3:=h.cnt;show (s.2++[_]).length+unm (s.1.set (zAI x (3*s.2.getD j 0+c) / 3).toNat k)<=x.1.2.length;rw [zN,List.length_singleton];omega
 ·exact h
theorem zPN {x:yI.T} (g:Good x) {k:Int} (hk:0<=k) {j:Nat} {s:OS} (h:OOk x.1.2.length s): ∀ c,OOk x.1.2.length (qA (ofC x k j) s c)
 | 0=>h
 | c+1=>z7X g hk (zPN g hk h c) c
theorem zVI {x:yI.T} (g:Good x) {k:Int} (hk:0<=k) {j:Nat} {s:OS} (h:OOk x.1.2.length s):OOk x.1.2.length (ofJ x k s j):=by
 unfold ofJ;exact zPN g hk h 3
theorem zUp {x:yI.T} (g:Good x) {k:Int} (hk:0<=k) {s:OS} (h:OOk x.1.2.length s): ∀ j,OOk x.1.2.length (qA (ofJ x k) s j)
 | 0=>h
 | j+1=>zVI g hk (zUp g hk h j)
theorem z2D {x:yI.T} (g:Good x) {k:Int} (hk:0<=k): ∀ (f j:Nat) {s:OS},OOk x.1.2.length s->OOk x.1.2.length (bfs x k f j s)
 | 0,_,_,h=>h
 | f+1,j,s,h=>by
   unfold bfs;split
   ·exact z2D g hk f (j+1) (zVI g hk h)
   ·exact h
theorem zM4 {n i:Nat} {l:List Int} {k:Int} (hk:0<=k) (hl:l.length=n) (hi:i<n) (h: ¬ l.getD i 0>=0):OOk n (l.set i k,[(i:Int)]):=by
 refine ⟨by rw [List.length_set];exact hl,fun j hj=> ?_,?_⟩
 ·have hj:j<1:=hj;have:j=0:=by omega
  subst this;show (0:Int)<=i/\(i:Int)<n;omega
 ·have:=zQH hk l i (by omega) (by omega);have h2:=z1s l;show 1+unm (l.set i k)<=n;omega
theorem zRG {x:yI.T} (g:Good x): ∀ i,i<=x.1.2.length->(ofL x i).1.length=x.1.2.length/\0<=(ofL x i).2/\(ofL x i).2<=i
 | 0,_=>⟨List.length_replicate,Int.le_refl 0,Int.le_refl 0⟩
 | i +1,hi=>by
   obtain ⟨h1,h2,h3⟩:=zRG g i (by omega);show (ofI x (ofL x i) i).1.length=_/\0<=(ofI x (ofL x i) i).2/\(ofI x (ofL x i) i).2<=_;unfold ofI;split
   ·exact ⟨h1,h2,by omega⟩
   ·rename_i hn;exact ⟨(z2D g h2 10000 0 (zM4 h2 h1 (by omega) hn)).len,by show 0<=(ofL x i).2+1;omega,by show (ofL x i).2+1<=_;omega⟩
theorem z8i {x:yI.T} {k:Int} {j c:Nat} {s:OS} (h1:zAI x (3*s.2.getD j 0+c)>=0) (h2:s.1.getD ((zAI x (3*s.2.getD j 0+c)).tdiv 3).toNat 0<0) :
 ofC x k j s c=(s.1.set ((zAI x (3*s.2.getD j 0+c)).tdiv 3).toNat k,s.2++[(zAI x (3*s.2.getD j 0+c)).tdiv 3]):=by
 rw [td3 h1] at *;unfold ofC;rw [if_pos ⟨h1,h2⟩]
theorem z8A {x:yI.T} {k:Int} {j c:Nat} {s:OS} (h1:zAI x (3*s.2.getD j 0+c)>=0) (h2: ¬ s.1.getD ((zAI x (3*s.2.getD j 0+c)).tdiv 3).toNat 0<0):ofC x k j s c=s:=by
 rw [td3 h1] at *;unfold ofC;rw [if_neg (fun e=>h2 e.2)]
theorem z67 {x:yI.T} {k:Int} {j c:Nat} {s:OS} (h1: ¬ zAI x (3*s.2.getD j 0+c)>=0):ofC x k j s c=s:=by
 unfold ofC;rw [if_neg (fun e=>h1 e.1)]
theorem z4u {x:yI.T} {k:Int} {j c:Nat} {s:OS} :s.2.length<=(ofC x k j s c).2.length:=by
 unfold ofC;split
 ·show _<=(s.2++[_]).length;rw [zN];omega
 ·exact zI _
theorem zQb {x:yI.T} {k:Int} {j:Nat} {s:OS} : ∀ c,s.2.length<=(qA (ofC x k j) s c).2.length
 | 0=>zI _
 | c+1=>Nat.le_trans (zQb c) z4u
theorem zVW (x:yI.T) (k:Int) (j:Nat) (s:OS) (c:Nat):qA (ofC x k j) s (c+1)=ofC x k j (qA (ofC x k j) s c) c:=rfl
theorem z6Y (x:yI.T) (k:Int) (s:OS) (j:Nat):qA (ofJ x k) s (j+1)=qA (ofC x k j) (qA (ofJ x k) s j) 3:=by
 rw [qA,ofJ]
theorem z7w {x:yI.T} {k:Int} {j:Nat} {s s0:OS} (hj:j<10000) (h:(j:Int)<s.2.length) (e:bfs x k 10000 0 s0=bfs x k (10000 - j) j s):bfs x k 10000 0 s0=bfs x k (10000 - (j+1)) (j+1) (ofJ x k s j):=by
 rw [e,show 10000 - j=(10000 - (j+1))+1 by omega,bfs,if_pos (by omega)]
theorem z4n {x:yI.T} {k:Int} {j:Nat} {s:OS} (h: ¬ (j:Int)<s.2.length): ∀ f,bfs x k f j s=s
 | 0=>rfl
 | f+1=>by rw [bfs,if_neg (by omega)]
theorem zRh {x:yI.T} {i:Nat} (h:(ofL x i).1.getD i 0>=0):ofL x (i+1)=ofL x i:=by
 show ofI x (ofL x i) i=_;unfold ofI;rw [if_pos h]
theorem z2f {x:yI.T} {i:Nat} (h: ¬ (ofL x i).1.getD i 0>=0):ofL x (i+1)=((bfs x (ofL x i).2 10000 0 ((ofL x i).1.set i (ofL x i).2,[(i:Int)])).1,(ofL x i).2+1):=by
 show ofI x (ofL x i) i=_;unfold ofI;rw [if_neg h]
theorem zR4 {α:Type} {a b:α} : ∀ (i n:Nat),i<n->List.replicate (i+1) a++List.replicate (n - (i+1)) b=(List.replicate i a++List.replicate (n - i) b).set i a
 | 0,n+1,_=>by simp [List.replicate_succ]
 | i+1,n+1,h=>by
   have:=zR4 (a:=a) (b:=b) i n (by omega);show a::(List.replicate (i+1) a++List.replicate (n+1 - (i+1+1)) b)=(a::(List.replicate i a++List.replicate (n+1 - (i+1)) b)).set (i+1) a;rw [List.set_cons_succ,show n+1 - (i+1+1)=n - (i+1) by omega,show n+1 - (i+1)=n - i by omega,this]
attribute [irreducible] ofC ofJ bfs ofI
def zX0 (n:Nat):Spec Nat where
 inv i:=i<=n
 live i:=[(16,.s (.int .i64 i))]
 keep:=[0,3,14,15]
 heap i:=[(1,.row y8 3 (List.replicate i (-1)++List.replicate (n - i) 0))]
 keepH:=[0]
 mu i:=n - i
def zXW (x:yI.T):Spec Nat where
 inv i:=i<=x.1.2.length
 live i:=[(25,.s (.int .i64 i)),(5,.s (.int .i64 (ofL x i).2))]
 keep:=[0,3,23,24]
 heap i:=[(1,.row y8 3 (ofL x i).1)]
 keepH:=[0]
 mu i:=x.1.2.length - i
def zVs (x:yI.T) (k:Int) (s:OS):Spec Nat where
 inv j:=j<=(qA (ofJ x k) s j).2.length/\bfs x k 10000 0 s=bfs x k (10000 - j) j (qA (ofJ x k) s j)
 live j:=[(8,.s (.int .i64 j)),(7,.s (.own 2 0 (qA (ofJ x k) s j).2.length))]
 keep:=[0,3,5,6,23,24,25]
 heap j:=[(1,.row y8 3 (qA (ofJ x k) s j).1),(2,.row y8 3 (qA (ofJ x k) s j).2)]
 keepH:=[0]
 mu j:=10000 - j
def zT5 (x:yI.T) (k:Int) (j:Nat) (s:OS):Spec Nat where
 inv c:=c<=3
 live c:=[(45,.s (.int .i64 c)),(7,.s (.own 2 0 (qA (ofC x k j) s c).2.length))]
 keep:=[0,3,5,6,8,23,24,25]
 heap c:=[(1,.row y8 3 (qA (ofC x k j) s c).1),(2,.row y8 3 (qA (ofC x k j) s c).2)]
 keepH:=[0]
 mu c:=3 - c
theorem z3F (x:yI.T) (g:Good x):zAG ⟨tyL,[(74,zB3),(37,zSa)],[]⟩ Tryz.f145 [(ETy.pt yI).av (some x)] (fun v=>v= .s (.sl y8 (ofR x))):=by
 have hn:x.1.2.length<=8192:=g.fit.2.2.1
 repeat' (conv=>whnf
          first|done|refine qN ?_|apply qH|refine qG fun _=> ?_|apply qB|apply qa|apply qo|refine qe (fun _=> ?_) (fun _=> ?_)|refine qn (fun _=> ?_) (fun _=> ?_)|refine qd (fun _=> ?_) (fun _=> ?_)|apply qt|refine qi (fun _=> ?_) (fun _=> ?_)|(refine zaB 3 rfl (zX0 x.1.2.length) (0) ?_ ?_ ?_ fun i hi=> ?_)|with_reducible refine zaA (zX0 _) (i+1) ?_ ?_ ?_ ?_|(refine zaB 9 rfl (zXW x) (0) ?_ ?_ ?_ fun i hi=> ?_)|with_reducible refine zaA (zXW _) (i+1) ?_ ?_ ?_ ?_|(refine zaB 15 rfl (zVs x (ofL x i).2 ((ofL x i).1.set i (ofL x i).2,[(i:Int)])) (0) ?_ ?_ ?_ fun j hj=> ?_)|with_reducible refine zaA (zVs _ _ _) (j+1) ?_ ?_ ?_ ?_|(refine zaB 18 rfl (zT5 x (ofL x i).2 j (qA (ofJ x (ofL x i).2) ((ofL x i).1.set i (ofL x i).2,[(i:Int)]) j)) (0) ?_ ?_ ?_ fun c hc=> ?_)|with_reducible refine zaA (zT5 _ _ _ _) (c+1) ?_ ?_ ?_ ?_|refine zA rfl ?_|apply qE|apply qO|exact zO|apply qq|apply qs|refine qK (by kernel_rfl) ?_|apply qr)
 all_goals try first|refine qz ?_|apply qz5
 all_goals try simp only [z6,zS,yE,zZ,qn1,z7,qn2,zX,ETy.dflt,qn3,qn4,Int.reduceToNat,Int.reduceAdd,Int.reduceSub,Int.reduceNeg,Nat.reduceAdd,zD,zX0,zXW,zVs,zT5] at *
 all_goals try (refine yJ.intro ?_;omega)
 ·exact zR4 _ _ (by omega)
 ·have e:i=x.1.2.length:=by omega
  subst e;rw [Nat.sub_self];simp only [List.replicate_zero,List.append_nil];rfl
 ·rw [zRh (by assumption)]
 ·rw [zRh (by assumption)]
 all_goals try
  have hL:=zRG g i (by omega);have h0:=zM4 (n:=x.1.2.length) (i:=i) hL.2.1 hL.1 (by omega) (by assumption)
 ·exact yJ.intro ⟨Nat.zero_le _,rfl⟩
 ·rfl
 all_goals try have hJ:=zUp g hL.2.1 h0 j
 all_goals try
  have hC:=zPN g hL.2.1 (j:=j) hJ c;have hlen:=zQb (x:=x) (k:=(ofL x i).2) (j:=j) (s:=qA (ofJ x (ofL x i).2) ((ofL x i).1.set i (ofL x i).2,[(i:Int)]) j) c;have hd:=hC.td j (by omega)
 all_goals try have hjc:=hJ.cnt
 all_goals try have hcc:=hC.cnt
 all_goals try (refine yJ.intro ?_;(try unfold yP);omega)
 all_goals try (exact yJ.intro (show @LE.le Int _ (3*(qA (ofC x (ofL x i).2 j) (qA (ofJ x (ofL x i).2) ((ofL x i).1.set i (ofL x i).2,[(i:Int)]) j) c).2.getD j 0+c) (1000000:Int) by omega))
 all_goals try (rw [zVW,z8i (by assumption) (by assumption)];first|done|exact zN)
 all_goals try (rw [zVW,z8A (by assumption) (by assumption)];done)
 all_goals try (rw [zVW,z67 (by assumption)];done)
 all_goals try (
  have:=z2E g ‹_›
  first
   | (refine yJ.intro ⟨by decide,?_⟩;rw [td3 (by assumption)];unfold yP;omega)
   | (refine yJ.intro ?_;rw [td3 (by assumption)];omega))
 all_goals try (
  have e:c=3:=by omega
  subst e
  first
   | (rw [z6Y];done)
   | exact yJ.intro ⟨by rw [z6Y];omega,z7w (by omega) (by assumption) hj.2⟩)
 ·rw [z2f (by assumption)]
 ·rw [z2f (by assumption),hj.2,z4n (by assumption)]
 ·have e:i=x.1.2.length:=by omega
  rw [e];unfold ofR;rw [List.drop_zero,List.take_of_length_le (by rw [(zRG g _ (zI _)).1];exact zI _)]
def z4a:List AV->Option Res:=zZY yI (fun x=>some (none,some (Good x),.s (.sl y8 (ofR x))))
theorem z4Y:qM Tryz.prog 145 z4a:=⟨zM0 fun x r h=>by cases h;exact qL (yN (fn:=[(74,zB3),(37,zSa)]) (fr:=[]) ⟨zE5,zKP,trivial⟩ trivial) Tryz.func145 (by kernel_rfl) fun _ h=>z3F x h,_,Tryz.func145,by kernel_rfl,by kernel_rfl⟩
end S1
open Go Go.Vm Go.Proofs
namespace S1
def smC (x:yI.T) (i:Nat) (b:Bool) (c:Nat):Bool:=b|| decide (zAI x (3*i+c)<0)
def smI (x:yI.T) (l:List Int) (m:Int) (s:Int×Bool) (i:Nat):Int×Bool :=
 if l.getD i 0≠m then s else (s.1+1,qA (smC x i) s.2 3)
def smS (x:yI.T) (m:Int) (i:Nat):Int×Bool:=qA (smI x (ofR x) m) (0,false) i
def smM (x:yI.T) (v:Int):Int:=(ofR x).getD (yY x v / 3).toNat 0
def zB2 (x:yI.T) (v:Int):Bool:=decide ((smS x (smM x v) (ofR x).length).1=1)|| (decide ((smS x (smM x v) (ofR x).length).1=4)&& !(smS x (smM x v) (ofR x).length).2)
theorem zMO {x:yI.T} (g:Good x):(ofR x).length=x.1.2.length:=(zRG g _ (zI _)).1
theorem z6p (x:yI.T) (m:Int) (i:Nat):smS x m (i+1)=smI x (ofR x) m (smS x m i) i:=rfl
theorem zO3 {x:yI.T} {m:Int} {i:Nat} (h:(ofR x).getD i 0≠m):smS x m (i+1)=smS x m i:=by
 rw [z6p];unfold smI;rw [if_pos h]
theorem zIX {x:yI.T} {m:Int} {i:Nat} (h:(ofR x).getD i 0=m):smS x m (i+1)=((smS x m i).1+1,qA (smC x i) (smS x m i).2 3):=by
 rw [z6p];unfold smI;rw [if_neg (fun e=>e h)]
theorem z1l (x:yI.T) (m:Int): ∀ i,0<=(smS x m i).1/\(smS x m i).1<=i
 | 0=>⟨Int.le_refl 0,Int.le_refl 0⟩
 | i+1=>by
   have:=z1l x m i
   by_cases h:(ofR x).getD i 0=m
   ·rw [zIX h];show 0<=(smS x m i).1+1/\(smS x m i).1+1<=_;omega
   ·rw [zO3 h];omega
theorem z4Q (x:yI.T) (i:Nat) (b:Bool) (c:Nat):qA (smC x i) b (c+1)=(qA (smC x i) b c|| decide (zAI x (3*i+c)<0)):=rfl
def zU0 (x:yI.T) (m:Int):Spec Nat where
 inv i:=i<=(ofR x).length
 live i:=[(23,.s (.int .i64 i)),(7,.s (.int .i64 (smS x m i).1)),(8,.s (.bool (smS x m i).2))]
 keep:=[0,1,6,21,22]
 heap _:=[]
 keepH:=[]
 mu i:=(ofR x).length - i
def zWq (x:yI.T) (i:Nat) (b:Bool):Spec Nat where
 inv c:=c<=3
 live c:=[(11,.s (.int .i64 (3*i+c))),(8,.s (.bool (qA (smC x i) b c)))]
 keep:=[0,1,6,7,9,21,22,23]
 heap _:=[]
 keepH:=[]
 mu c:=3 - c
theorem zZV (x:yI.T) (v:Int) (h:Good x/\j6 x (yY x v)=true):zAG ⟨tyL,[(145,z4a),(124,zDw),(37,zSa)],[]⟩ Tryz.f111 [(ETy.pt yI).av (some x),y8.av v] (fun r=>r= .s (.bool (zB2 x v))):=by
 have hn:x.1.2.length<=8192:=h.1.fit.2.2.1;have hl:=zMO h.1;have hc0:=yH.1 h.2;have hm:(ofR x).getD ((yY x v).tdiv 3).toNat 0=smM x v:=by rw [td3 hc0.1];rfl
 repeat' (conv=>whnf
          first|done|refine qN ?_|apply qH|refine qG fun _=> ?_|apply qB|apply qa|apply qo|refine qe (fun _=> ?_) (fun _=> ?_)|refine qn (fun _=> ?_) (fun _=> ?_)|refine qd (fun _=> ?_) (fun _=> ?_)|apply qt|refine qi (fun _=> ?_) (fun _=> ?_)|(refine zaB 5 rfl (zU0 x (smM x v)) (0) ?_ ?_ ?_ fun i hi=> ?_)|with_reducible refine zaA (zU0 _ _) (i+1) ?_ ?_ ?_ ?_|(refine zaB 10 rfl (zWq x i (smS x (smM x v) i).2) (0) ?_ ?_ ?_ fun c hc=> ?_)|with_reducible refine zaA (zWq _ _ _) (c+1) ?_ ?_ ?_ ?_|refine zA rfl ?_|apply qE|apply qO|exact zO|apply qq|apply qs|refine qK (by kernel_rfl) ?_|apply qr)
 all_goals try first|refine qz ?_|apply qz5
 all_goals try simp only [z6,zS,yE,zZ,qn1,z7,qn2,zX,ETy.dflt,qn3,qn4,Int.reduceToNat,Int.reduceAdd,Int.reduceSub,Int.reduceNeg,Nat.reduceAdd,zD,zU0,zWq] at *
 all_goals try (refine yJ.intro ?_;omega)
 all_goals try have hS:=z1l x (smM x v) i
 all_goals try rw [hm] at *
 ·exact yJ.intro h.1
 ·refine yJ.intro ⟨by decide,?_⟩;rw [td3 hc0.1];unfold yP;omega
 ·refine yJ.intro ?_;rw [td3 hc0.1,hl];omega
 ·rw [zO3 (by assumption)]
 ·rw [zO3 (by assumption)]
 ·refine yJ.intro ?_;unfold yP;omega
 ·rw [z4Q,show qA (smC x i) (smS x (smM x v) i).2 c=true by assumption];rfl
 ·exact yJ.intro (show @LE.le Int _ (3*(i:Int)+c) (1000000:Int) by omega)
 ·rw [z4Q,show qA (smC x i) (smS x (smM x v) i).2 c=false by assumption];rfl
 ·rw [zIX (by assumption)]
 ·rw [zIX (by assumption)];have e:c=3:=by omega
  rw [e]
 all_goals (
  have e:i=(ofR x).length:=by omega
  unfold zB2;rw [<- e])
 ·rename_i h1;rw [h1];rfl
 ·rename_i h1 h2;rw [h2];rfl
 ·rename_i h1 h2;rw [decide_eq_false h1,decide_eq_false h2];rfl
def zMv:List AV->Option Res:=zGX yI y8 (fun x v=>some (none,some (Good x/\j6 x (yY x v)=true),.s (.bool (zB2 x v))))
theorem zR1:qM Tryz.prog 111 zMv:=⟨zAs fun x v r h=>by cases h;exact qL (yN (fn:=[(145,z4a),(124,zDw),(37,zSa)]) (fr:=[]) ⟨z4Y,zGT,zKP,trivial⟩ trivial) Tryz.func111 (by kernel_rfl) fun _ h=>zZV x v h,_,Tryz.func111,by kernel_rfl,by kernel_rfl⟩
end S1
open Go Go.Vm Go.Proofs
namespace S1
def zGc (x:yI.T) (a b:Int):List Int:=if a=b then [] else zBY ((zCz x a).filter fun v=>zDv v (zCz x b))
def z8N (o:Option yI.T) (a b:Int):List Int:=onO o [] fun x=>zGc x a b
def z71:List AV->Option Res:=zOw (.pt yI) y8 y8 (fun o a b=>some (none,some (∀ x,o=some x->Good x),.s (.sl y8 (z8N o a b))))
def zTH (f:List Int):List Int->Bool
 | []=>true
 | v::r=>zDv v f&&zTH f r
def zDV (x:yI.T) (a b:Int):Int :=
 if !zAQ x a b then 1 else if (zDf x a b).length=2/\zAY x a=false/\zAY x b=false then 2
 else if zTH (zDf x a b) (zGc x a b)=false then 3 else if zB2 x a then 4 else 0
theorem zZD {x:yI.T} (g:Good x) {a b:Int} (h:zAQ x a b=true):j6 x (yY x a)=true/\j6 x (yY x b)=true:=by
 have key: ∀ {a b:Int},0<=qJ x (a,b)->j6 x (yY x a)=true/\j6 x (yY x b)=true:=fun {a b} h=>by
  unfold qJ at h;cases e:jS .arr2 x.2.1 (a,b) with
  | none=>rw [e] at h;exact absurd h (by decide)
  | some c =>
    obtain ⟨h1,h2⟩:=g.map _ _ e;have e1:yS x (qY x c)=a:=congrArg Prod.fst h2;have e2:yS x (qV x c)=b:=congrArg Prod.snd h2;have k1:=g.cor _ (zAF h1).1;have k2:=g.cor _ (zAF h1).2;rw [e1] at k1;rw [e2] at k2;exact ⟨k1,k2⟩
 unfold zAQ at h;rw [Bool.or_eq_true,zP,zP] at h;rcases h with h|h
 ·exact key h
 ·exact (key h).symm
theorem z09 {α:Type} {x:yI.T} {d:α} {f:yI.T->α} :onO (some x) d f=f x:=rfl
theorem zXY {x:yI.T} {a b:Int} :z8N (some x) a b=zGc x a b:=rfl
attribute [local irreducible] zAQ zAY zDv zB2
def z3l (x:yI.T) (a b:Int):Spec Nat where
 inv i:=i<=(zGc x a b).length/\zTH (zDf x a b) (zGc x a b)=zTH (zDf x a b) ((zGc x a b).drop i)
 live i:=[(39,.s (.int .i64 i))]
 keep:=[0,1,2,7,37,38]
 heap _:=[]
 keepH:=[]
 mu i:=(zGc x a b).length - i
theorem z8C (x:yI.T) (a b:Int) (g:Good x):zAG ⟨tyL,[(55,zLo),(109,zFw),(46,zNZ),(110,z71),(103,zAe),(111,zMv)],[]⟩ Tryz.f69 [(ETy.pt yI).av (some x),y8.av a,y8.av b] (fun r=>r= .s (.int .i64 (zDV x a b))):=by
 repeat' (conv=>whnf
          first|done|refine qN ?_|apply qH|refine qG fun _=> ?_|apply qB|apply qa|apply qo|refine qe (fun _=> ?_) (fun _=> ?_)|refine qn (fun _=> ?_) (fun _=> ?_)|refine qd (fun _=> ?_) (fun _=> ?_)|apply qt|refine qi (fun _=> ?_) (fun _=> ?_)|(refine zaB 7 rfl (z3l x a b) (0) ?_ ?_ ?_ fun i hi=> ?_)|with_reducible refine zaA (z3l _ _ _) (i+1) ?_ ?_ ?_ ?_|refine zA rfl ?_|apply qE|apply qO|exact zO|apply qq|apply qs|refine qK (by kernel_rfl) ?_|apply qr)
 all_goals try first|refine qz ?_|apply qz5
 all_goals try simp only [z6,zS,yE,zZ,qn1,z7,qn2,zX,ETy.dflt,qn3,qn4,Int.reduceToNat,Int.reduceAdd,Int.reduceSub,Int.reduceNeg,Nat.reduceAdd,zD,z3l,z09,zXY] at *
 all_goals try have hnear:zAQ x a b=true:=by assumption
 all_goals try have hlt:(i:Int)<((zGc x a b).length:Int):=by assumption
 all_goals try have hge: ¬ (i:Int)<((zGc x a b).length:Int):=by assumption
 all_goals try have hh:zDv ((zGc x a b).getD i 0) (zDf x a b)=true:=by assumption
 all_goals try have hf:zDv ((zGc x a b).getD i 0) (zDf x a b)=false:=by assumption
 all_goals try have hno:zAQ x a b=false:=by assumption
 all_goals first
  | exact yJ.intro (fun y e=>by cases e;exact g)
  | exact yJ.intro ⟨Nat.zero_le _,rfl⟩
  | exact yJ.intro ⟨g,(zZD g hnear).1⟩
  | (refine yJ.intro ⟨by omega,?_⟩;rw [hi.2,zBU 0 hlt,zTH,hh];rfl)
  | exact yJ.intro (by omega)
  | (have hw:zTH (zDf x a b) (zGc x a b)=true:=by rw [hi.2,zE9 hge];rfl
     clear hi;unfold zDV;(try have hfl:(zDf x a b).length=2:=by omega);(try have hfn: ¬ (zDf x a b).length=2:=by omega);simp [*];done)
  | (have hw:zTH (zDf x a b) (zGc x a b)=false:=by rw [hi.2,zBU 0 hlt,zTH,hf];rfl
     clear hi;unfold zDV;(try have hfl:(zDf x a b).length=2:=by omega);(try have hfn: ¬ (zDf x a b).length=2:=by omega);simp [*];done)
  | (unfold zDV;(try have hfl:(zDf x a b).length=2:=by omega);simp [*];done)
  | skip
end S1
open Go Go.Vm Go.Proofs
namespace S1
theorem z1f (v:Int) (l:List Int):zAG ⟨tyL,[(103,zAe)],[]⟩ Tryz.f144 [y8.av v,(ETy.pt (.sl y8)).av (some l)] (fun r=>r= .s (.bool (!zDv v l))):=by
 repeat' (conv=>whnf
          first|done|refine qN ?_|apply qH|refine qG fun _=> ?_|apply qB|apply qa|apply qo|refine qe (fun _=> ?_) (fun _=> ?_)|refine qn (fun _=> ?_) (fun _=> ?_)|refine qd (fun _=> ?_) (fun _=> ?_)|apply qt|refine qi (fun _=> ?_) (fun _=> ?_)|refine zA rfl ?_|apply qE|apply qO|exact zO|apply qq|apply qs|refine qK (by kernel_rfl) ?_|apply qr)
 all_goals try first|refine qz ?_|apply qz5
 all_goals try simp only [z6,zS,yE,zZ,qn1,z7,qn2,zX,ETy.dflt,qn3,qn4,Int.reduceToNat,Int.reduceAdd,Int.reduceSub,Int.reduceNeg,Nat.reduceAdd,zD,Option.getD_some] at *
def zNz:List AV->Option Res:=zCr y8 (.pt (.sl y8)) (fun v o=>match o with|some l=>some (none,none,.s (.bool (!zDv v l)))|none=>none)
theorem zRu:qM Tryz.prog 144 zNz:=⟨jD fun v o r h=>by
 cases o with
 | none=>cases h
 | some l=>cases h;exact qL (yN (fn:=[(103,zAe)]) (fr:=[]) ⟨zCU,trivial⟩ trivial) Tryz.func144 (by kernel_rfl) fun _ _=>z1f v l,_,Tryz.func144,by kernel_rfl,by kernel_rfl⟩
attribute [local irreducible] zDv
def zQe (p:Int->Bool):List Int->Nat->Int
 | [],_=> -1
 | a::r,i=>if p a=true then (i:Int) else zQe p r (i+1)
def zVE (p:Int->Bool) (l:List Int):Spec Nat where
 inv x:=x<=l.length/\zQe p l 0=zQe p (l.drop x) x
 live x:=[(8,.s (.int .i64 x))]
 keep:=[0,1,7]
 heap _:=[]
 keepH:=[]
 mu x:=l.length - x
theorem z36 (l m:List Int):zAG ⟨tyL,[(144,zNz)],[]⟩ Tryz.f171 [(ETy.sl y8).av l,.s (.clo 144 [⟨.sl y8,m⟩])] (fun r=>r= .s (.int .i64 (zQe (fun v=> !zDv v m) l 0))):=by
 repeat' (conv=>whnf
          first|done|refine qN ?_|apply qH|refine qG fun _=> ?_|apply qB|apply qa|apply qo|refine qe (fun _=> ?_) (fun _=> ?_)|refine qn (fun _=> ?_) (fun _=> ?_)|refine qd (fun _=> ?_) (fun _=> ?_)|apply qt|refine qi (fun _=> ?_) (fun _=> ?_)|(refine zaB 2 rfl (zVE (fun v=> !zDv v m) l) (0) ?_ ?_ ?_ fun x hx=> ?_)|with_reducible refine zaA (zVE _ _) (x+1) ?_ ?_ ?_ ?_|refine zA rfl ?_|apply qE|apply qO|exact zO|apply qq|apply qs|refine qK (by kernel_rfl) ?_|apply qr)
 all_goals try first|refine qz ?_|apply qz5
 all_goals try simp only [z6,zS,yE,zZ,qn1,z7,qn2,zX,ETy.dflt,qn3,qn4,Int.reduceToNat,Int.reduceAdd,Int.reduceSub,Int.reduceNeg,Nat.reduceAdd,zD,zVE] at *
 all_goals try (refine yJ.intro ?_;omega)
 ·exact yJ.intro ⟨Nat.zero_le _,rfl⟩
 ·rename_i h1 h2;exact yJ.intro ⟨by omega,by rw [hx.2,zBU 0 h1,zQe,if_neg (by rw [h2];simp)]⟩
 ·rename_i h1 h2;rw [hx.2,zBU 0 h1,zQe,if_pos (by rw [h2];rfl)]
 ·rw [hx.2,zE9 (by assumption)];rfl
def z0x:List AV->Option Res
 | [.s (.sl (.int .i64) l),.s (.clo f [⟨.sl (.int .i64),m⟩])]=>match Nat.beq f 144 with
   | true=>some (none,none,.s (.int .i64 (zQe (fun v=> !zDv v m) l 0)))
   | false=>none
 | _=>none
theorem z5W:qM Tryz.prog 171 z0x:=⟨fun args r h=>by
 unfold z0x at h;split at h
 case h_2=>cases h
 split at h
 case h_2=>cases h
 rename_i he;cases h;rw [zH he]
 exact qL (yN (fn:=[(144,zNz)]) (fr:=[]) ⟨zRu,trivial⟩ trivial) Tryz.func171 (by kernel_rfl) fun _ _=>z36 _ _,_,Tryz.func171,by kernel_rfl,by kernel_rfl⟩
def z8l:List AV->St->(AV->St->Prop)->Prop:=zR3 ⟨tyL,[(144,zNz),(171,z0x)],[]⟩ Tryz.f143
theorem z6K : zJM Tryz.prog 143 z8l ∧ ∃ fn, Tryz.prog.funcs[143]? = some fn ∧ (fn.name == "runtime.NumGoroutine") = false ∧ fn.body.isNone = false :=
 ⟨zOG (yN (fn:=[(144,zNz),(171,z0x)]) (fr:=[]) ⟨zRu,z5W,trivial⟩ trivial) Tryz.func143 rfl (by kernel_rfl),_,Tryz.func143,by kernel_rfl,by kernel_rfl⟩
def zIE (p:Int->Bool) (xs:List Int):Spec (Nat×Nat×List Int) where
 inv x:=x.2.1<x.1/\x.1<=xs.length/\x.2.2.length=xs.length/\x.2.2.take x.2.1=(xs.take x.1).filter (fun v=> !p v)/\x.2.2.drop x.1=xs.drop x.1
 live x:=[(5,.s (.int .i64 x.2.1)),(6,.s (.int .i64 x.1))]
 keep:=[0,1]
 heap x:=[(3,.row y8 3 x.2.2)]
 keepH:=[0,4,5]
 mu x:=xs.length - x.1
theorem zY5 (o:Option yI.T) (a:Int) (hg: ∀ x,o=some x->Good x):(zBh o a).length<=40000:=by
 cases o with
 | none=>exact Nat.zero_le _
 | some x =>
   have:=(zGo (hg x rfl) a).1;show (zCz x a).length<=40000;unfold zCz;rw [zN,zYg _ _ _ (zI _)];split
   ·simp only [List.length_singleton];omega
   ·simp only [List.length_nil];omega
theorem zXD (p:Int->Bool): ∀ (l:List Int) (i:Nat),(zQe p l i= -1/\l.filter (fun v=> !p v)=l)\/(∃ k:Nat,zQe p l i=((i+k:Nat):Int)/\k<l.length/\(l.take k).filter (fun v=> !p v)=l.take k/\p (l.getD k 0)=true)
 | [],i=> .inl ⟨rfl,rfl⟩
 | a ::r,i=>by
   unfold zQe;cases h:p a with
   | true=>exact .inr ⟨0,by simp,by simp,rfl,by simpa using h⟩
   | false =>
     rw [if_neg (by simp)];rcases zXD p r (i+1) with ⟨h1,h2⟩|⟨k,h1,h2,h3,h4⟩
     ·exact .inl ⟨h1,by rw [List.filter_cons_of_pos (by simp [h]),h2]⟩
     ·exact .inr ⟨k+1,by rw [h1];congr 1;omega,by simp;omega,by rw [List.take_succ_cons,List.filter_cons_of_pos (by simp [h]),h3],by simpa using h4⟩
theorem z1x {o:Option yI.T} {a b:Int} (h:a≠b):z8N o a b=zBY ((zBh o a).filter fun v=>zDv v (zBh o b)):=by
 cases o with
 | none=>show []=zBY [];exact (List.length_eq_zero_iff.1 (zDQ [])).symm
 | some x=>show zGc x a b=_;unfold zGc;rw [if_neg h];rfl
theorem z02 {p:Int->Bool} {xs:List Int} {x:Nat×Nat×List Int} (h:(zIE p xs).inv x) (hlt:x.1<xs.length) (hp:p (x.2.2.getD x.1 0)=false):(zIE p xs).inv (x.1+1,x.2.1+1,x.2.2.set x.2.1 (x.2.2.getD x.1 0)):=by
 obtain ⟨h1,h2,h3,h4,h5⟩:=h
 have e:x.2.2.getD x.1 0=xs.getD x.1 0:=by
  have:=congrArg (fun l=>l.getD 0 0) h5;simpa [zR] using this
 refine ⟨by show x.2.1+1<x.1+1;omega,by show x.1+1<=_;omega,by show (x.2.2.set _ _).length=_;rw [List.length_set];exact h3,?_,?_⟩
 ·show (x.2.2.set x.2.1 (x.2.2.getD x.1 0)).take (x.2.1+1)=(xs.take (x.1+1)).filter _;rw [yB (by rw [List.length_set];omega),List.take_set_of_le (zI _),h4,List.getElem_set_self,yB hlt,List.filter_append];rw [e] at hp ⊢;rw [zR,zG hlt] at hp ⊢;have hp:p xs[x.1]=false:=hp;rw [List.filter_cons_of_pos (by rw [hp];rfl)];rfl
 ·show (x.2.2.set x.2.1 _).drop (x.1+1)=xs.drop (x.1+1);rw [List.drop_set_of_lt (by omega),<- List.drop_drop,h5,List.drop_drop]
theorem zZU {p:Int->Bool} {xs:List Int} {x:Nat×Nat×List Int} (h:(zIE p xs).inv x) (hlt:x.1<xs.length) (hp:p (x.2.2.getD x.1 0)=true):(zIE p xs).inv (x.1+1,x.2.1,x.2.2):=by
 obtain ⟨h1,h2,h3,h4,h5⟩:=h
 have e:x.2.2.getD x.1 0=xs.getD x.1 0:=by
  have:=congrArg (fun l=>l.getD 0 0) h5;simpa [zR] using this
 refine ⟨by show x.2.1<x.1+1;omega,by show x.1+1<=_;omega,h3,?_,?_⟩
 ·show x.2.2.take x.2.1=(xs.take (x.1+1)).filter _;rw [h4,yB hlt,List.filter_append];rw [e,zR,zG hlt] at hp;have hp:p xs[x.1]=true:=hp;rw [List.filter_cons_of_neg (by rw [hp];simp)];simp
 ·show x.2.2.drop (x.1+1)=xs.drop (x.1+1);rw [<- List.drop_drop,h5,List.drop_drop]
theorem zVY (xs m:List Int):xs.filter (fun v=> !!zDv v m)=xs.filter fun v=>zDv v m:=by simp
theorem z78 (o:Option yI.T) (a b:Int) (hg: ∀ x,o=some x->Good x):zAG ⟨tyL,[],[(142,.res zXZ),(143,.run z8l),(75,.run zNS)]⟩ Tryz.f110 [(ETy.pt yI).av o,y8.av a,y8.av b] (fun r=>r= .s (.sl y8 (z8N o a b))):=by
 have hlt:=zXD (fun v=> !zDv v (zBh o b)) (zBh o a) 0;have hlen:=zY5 o a hg
 repeat' (conv=>whnf
          first|done|refine qN ?_|apply qH|refine qG fun _=> ?_|apply qB|apply qa|apply qo|refine qe (fun _=> ?_) (fun _=> ?_)|refine qn (fun _=> ?_) (fun _=> ?_)|refine qd (fun _=> ?_) (fun _=> ?_)|apply qt|refine qi (fun _=> ?_) (fun _=> ?_)|(refine (fun (X:Array Value)=> ?_))|(refine zaB 5 rfl (zIE (fun v=> !zDv v (zBh o b)) (zBh o a)) (((zQe (fun v=> !zDv v (zBh o b)) (zBh o a) 0).toNat+1,(zQe (fun v=> !zDv v (zBh o b)) (zBh o a) 0).toNat,zBh o a)) ?_ ?_ ?_ fun x hx=> ?_)|with_reducible refine zaA (zIE _ _) ((x.1+1,if zDv (x.2.2.getD x.1 0) (zBh o b)=true then x.2.1+1 else x.2.1,if zDv (x.2.2.getD x.1 0) (zBh o b)=true then x.2.2.set x.2.1 (x.2.2.getD x.1 0) else x.2.2)) ?_ ?_ ?_ ?_|refine zA rfl ?_|apply qE|apply qO|exact zO|apply qq|apply qs|refine qK (by kernel_rfl) ?_|apply qr)
 all_goals try first|refine qz ?_|apply qz5
 all_goals try simp only [z6,zS,yE,zZ,qn1,z7,qn2,zX,ETy.dflt,qn3,qn4,Int.reduceToNat,Int.reduceAdd,Int.reduceSub,Int.reduceNeg,Nat.reduceAdd,zD,zIE] at *
 ·rename_i h;cases o with
  | none=>rfl
  | some x=>show []=zGc x a b;unfold zGc;rw [if_pos h]
 ·have hne:a≠b:=by assumption
  have hi:zQe (fun v=> !zDv v (zBh o b)) (zBh o a) 0= -1:=by assumption
  rcases hlt with ⟨_,hf⟩|⟨k,hk,_⟩
  ·rw [z1x hne,<- zVY (zBh o a) (zBh o b),hf];simp only [List.take_zero,List.nil_append,List.drop_zero,List.drop_length,List.append_nil];exact List.take_of_length_le (Nat.le_of_eq (zDQ _))
  ·rw [hk] at hi;omega
 all_goals
  have hne:a≠b:=by assumption
  have hi: ¬ zQe (fun v=> !zDv v (zBh o b)) (zBh o a) 0= -1:=by assumption
  obtain ⟨k,hk,hk2,hk3,hk4⟩:=hlt.resolve_left (fun e=>hi e.1)
 ·rw [hk];refine yJ.intro ?_;unfold yP;omega
 ·rw [hk];refine yJ.intro ⟨by show ((k:Nat):Int).toNat<((k:Nat):Int).toNat+1;omega,by show ((k:Nat):Int).toNat+1<=_;omega,zO,?_,zO⟩;rw [Int.toNat_natCast,yB hk2,List.filter_append,hk3];rw [zR,zG hk2] at hk4;have hk4:(!zDv (zBh o a)[k] (zBh o b))=true:=hk4;rw [List.filter_cons_of_neg (by rw [hk4];simp)];simp
 ·rw [hk];rfl
 ·rw [hk];rfl
 ·refine yJ.intro ?_;omega
 ·refine yJ.intro ?_;unfold yP;omega
 ·rename_i hq;rw [if_pos hq,if_pos hq];exact yJ.intro (z02 hx (by omega) (by rw [hq];rfl))
 ·rename_i hq;rw [if_pos hq];rfl
 ·rename_i hq;rw [if_pos hq]
 ·refine yJ.intro ?_;omega
 ·rename_i hq;rw [if_neg (by rw [hq];simp),if_neg (by rw [hq];simp)];exact yJ.intro (zZU hx (by omega) (by rw [hq];rfl))
 ·rename_i hq;rw [if_neg (by rw [hq];simp)]
 ·rename_i hq;rw [if_neg (by rw [hq];simp)]
 ·refine yJ.intro ?_;omega
 ·refine yJ.intro ?_;omega
 ·refine yJ.intro ?_;omega
 ·obtain ⟨h1,h2,h3,h4,h5⟩:=hx;have he:x.1=(zBh o a).length:=by omega
  rw [he,List.take_length] at h4;rw [z1x hne,<- zVY (zBh o a) (zBh o b),<- h4];have hl:(x.2.2.take x.2.1).length=x.2.1:=by rw [qZ];omega
  simp only [List.drop_zero,List.take_zero,List.nil_append];have e2: ∀ z:List Int,List.take x.2.1 (x.2.2.take x.2.1++z)=x.2.2.take x.2.1:=fun z=>by rw [List.take_append_of_le_length (Nat.le_of_eq hl.symm),List.take_of_length_le (Nat.le_of_eq hl)]
  rw [e2,List.take_append_of_le_length (by rw [zDQ];omega),List.take_of_length_le (by rw [zDQ];omega)]
theorem z2X:qM Tryz.prog 110 z71:=⟨zDZ fun o a b r h=>by
 cases h
 exact qL (yN (fn:=[]) (fr:=[(142,.res zXZ),(143,.run z8l),(75,.run zNS)]) trivial ⟨z1E,z6K,zRK,trivial⟩) Tryz.func110 (by kernel_rfl) fun _ h=>z78 o a b h,_,Tryz.func110,by kernel_rfl,by kernel_rfl⟩
end S1
open Go Go.Vm Go.Proofs
namespace S1
theorem z5e (a b:Int):zAG ⟨tyL,[(55,zLo),(109,zFw),(46,zNZ),(110,z71),(103,zAe),(111,zMv)],[]⟩ Tryz.f69 [(ETy.pt yI).av none,y8.av a,y8.av b] (fun r=>r= .s (.int .i64 1)):=by
 repeat' (conv=>whnf
          first|done|refine qN ?_|apply qH|refine qG fun _=> ?_|apply qB|apply qa|apply qo|refine qe (fun _=> ?_) (fun _=> ?_)|refine qn (fun _=> ?_) (fun _=> ?_)|refine qd (fun _=> ?_) (fun _=> ?_)|apply qt|refine qi (fun _=> ?_) (fun _=> ?_)|refine zA rfl ?_|apply qE|apply qO|exact zO|apply qq|apply qs|refine qK (by kernel_rfl) ?_|apply qr)
 all_goals try first|refine qz ?_|apply qz5
 all_goals try simp only [z6,zS,yE,zZ,qn1,z7,qn2,zX,ETy.dflt,qn3,qn4,Int.reduceToNat,Int.reduceAdd,Int.reduceSub,Int.reduceNeg,Nat.reduceAdd,zD] at *
def z6E (o:Option yI.T) (a b:Int):Int:=onO o 1 fun x=>zDV x a b
def z4l:List AV->Option Res:=zOw (.pt yI) y8 y8 (fun o a b=>some (none,some (∀ x,o=some x->Good x),.s (.int .i64 (z6E o a b))))
theorem zXj:qM Tryz.prog 69 z4l:=⟨zDZ fun o a b r h=>by
 cases h;cases o with
 | none=>exact qL (yN (fn:=[(55,zLo),(109,zFw),(46,zNZ),(110,z71),(103,zAe),(111,zMv)]) (fr:=[]) ⟨zLw,zKX,zQw,z2X,zCU,zR1,trivial⟩ trivial) Tryz.func69 (by kernel_rfl) fun _ _=>z5e a b
 | some x=>exact qL (yN (fn:=[(55,zLo),(109,zFw),(46,zNZ),(110,z71),(103,zAe),(111,zMv)]) (fr:=[]) ⟨zLw,zKX,zQw,z2X,zCU,zR1,trivial⟩ trivial) Tryz.func69 (by kernel_rfl) fun _ h=>z8C x a b (h x rfl),_,Tryz.func69,by kernel_rfl,by kernel_rfl⟩
theorem z7u (o:Option yI.T) (a b:Int) (hg: ∀ x,o=some x->Good x):zAG ⟨tyL,[(69,z4l)],[]⟩ Tryz.f27 [(ETy.pt yI).av o,y8.av a,y8.av b] (fun r=>r= .s (.bool (z6E o a b==0))):=by
 repeat' (conv=>whnf
          first|done|refine qN ?_|apply qH|refine qG fun _=> ?_|apply qB|apply qa|apply qo|refine qe (fun _=> ?_) (fun _=> ?_)|refine qn (fun _=> ?_) (fun _=> ?_)|refine qd (fun _=> ?_) (fun _=> ?_)|apply qt|refine qi (fun _=> ?_) (fun _=> ?_)|refine zA rfl ?_|apply qE|apply qO|exact zO|apply qq|apply qs|refine qK (by kernel_rfl) ?_|apply qr)
 all_goals try first|refine qz ?_|apply qz5
 all_goals try simp only [z6,zS,yE,zZ,qn1,z7,qn2,zX,ETy.dflt,qn3,qn4,Int.reduceToNat,Int.reduceAdd,Int.reduceSub,Int.reduceNeg,Nat.reduceAdd,zD] at *
 all_goals first|exact yJ.intro hg|skip
def z7M:List AV->Option Res:=zOw (.pt yI) y8 y8 (fun o a b=>some (none,some (∀ x,o=some x->Good x),.s (.bool (z6E o a b==0))))
theorem z26:qM Tryz.prog 27 z7M:=⟨zDZ fun o a b r h=>by cases h;exact qL (yN (fn:=[(69,z4l)]) (fr:=[]) ⟨zXj,trivial⟩ trivial) Tryz.func27 (by kernel_rfl) fun _ h=>z7u o a b h,_,Tryz.func27,by kernel_rfl,by kernel_rfl⟩
end S1
open Go Go.Vm Go.Proofs
namespace S1
theorem zCN {x:yI.T} (g:Good x) (a:Int):zAQ x a a=false:=by
 have key: ¬ 0<=qJ x (a,a):=fun h=>by
  unfold qJ at h;cases e:jS .arr2 x.2.1 (a,a) with
  | none=>rw [e] at h;exact absurd h (by decide)
  | some c =>
    obtain ⟨h1,h2⟩:=g.map _ _ e;exact g.ends c h1 (by rw [h2])
 unfold zAQ;rw [decide_eq_false key];rfl
theorem z4G {x:yI.T} {a b:Int} (h:zAQ x a b=false):zDV x a b=1:=by unfold zDV;rw [h];rfl
end S1
open Go Go.Vm Go.Proofs
namespace S1
theorem zRP (v:Int): ∀ (l:List Int) (i:Nat),zPC v l i>=0↔v∈l
 | [],i=>⟨fun h=>by have h:(-1:Int)>=0:=h;omega,fun h=>(by cases h)⟩
 | a ::r,i=>by
   unfold zPC;split
   ·rename_i e;subst e;exact ⟨fun _=>zY ..,fun _=>by omega⟩
   ·rename_i e;rw [zRP v r,zT];exact ⟨.inr,fun h=>h.resolve_left e⟩
theorem zQo {v:Int} {l:List Int} :zDv v l=true↔v∈l:=by
 unfold zDv;rw [zP,zRP]
theorem zMf {x:yI.T} (g:Full x) {a b v:Int} :v∈zGc x a b↔a≠b/\zAQ x a v=true/\zAQ x b v=true:=by
 unfold zGc;split
 ·rename_i h;exact ⟨fun h=>(by cases h),fun h'=>absurd h h'.1⟩
 ·rename_i h;rw [(zG9 _).mem_iff,List.mem_filter,zQo,g.link_iff,g.link_iff];exact ⟨fun k=>⟨h,k⟩,fun k=>k.2⟩
theorem zRa {f l:List Int} :zTH f l=true↔∀ v∈l,v∈f:=by
 induction l with
 | nil=>exact ⟨fun _ v h=>(by cases h),fun _=>rfl⟩
 | cons a r ih =>
   unfold zTH;rw [zC,zQo,ih]
   exact ⟨fun ⟨h1,h2⟩ v hv=>by
    rcases zT.1 hv with e|hv
    ·rw [e];exact h1
    ·exact h2 v hv,fun h=>⟨h a (zY ..),fun v hv=>h v (zQ _ hv)⟩⟩
theorem z0l {x:yI.T} {a b:Int} (h:zDV x a b=0): ∀ v∈zGc x a b,v∈zDf x a b:=by
 unfold zDV at h
 repeat' split at h
 all_goals first
  | (exact absurd h (by decide))
  | skip
 rename_i hw _;exact zRa.1 (by cases e:zTH (zDf x a b) (zGc x a b) with|true=>rfl|false=>exact absurd e hw)
end S1
