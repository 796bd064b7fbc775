/- A part of the proofs of the laws. -/
import Derived.Test.YtlhoihabllompaaGreatVmRngMtoVmSeq
import Derived.Test.YtlhoihabllompaaGreatT22toF5a
import Derived.Test.YtlhoihabllompaaGreatT12toVmRng
import Derived.Test.YtlhoihabllompaaGreatT0toVmInl
set_option linter.unusedSimpArgs false
set_option linter.unusedVariables false
set_option maxHeartbeats 8000000
set_option maxRecDepth 100000
/- Functions with ranges over functions at their top that hand rows over. -/
namespace Go.Vm
open Go.RowKit
def zQT (T:Tab) (SQ:zCv) (fn:Func) (args:List AV) (R:AV->List Ob->Prop):Prop :=
 match fn.body with
 | some c=>(St.init args).forceAll fun s=>qC T SQ c s (zSd T fn R)
 | none=>False
section
variable {P:Program} {T:Tab} {SQ:zCv} {B B0:Base} {w w':World} {σ τ:Sig} {β:yQ} {st:St} {tmps:Array Value} {N:Nat} {a:Act}
theorem zPM {fn:Func} {st':St} {R:Ending->World->Prop}
 (hend: ∀ (B1:Base) (σ1:Sig) (β1:yQ) (w':World),B1.w=w->zSn ⟨w,σ,[]⟩ B1.sg->GG B1 σ1 β1 st' tmps w'->∃ v,(results fn tmps).run P w'= .ok v w'/\R (.returned v) w') (hag:Ag σ w) :
 ∀ (Ds:List Nat) (B1:Base) (σ1:Sig) (β1:yQ) (w':World),Ds.Nodup->(∀ D∈Ds,B1.sg D=some (.deferred (some []))/\w.heap.size<=D)->B1.w=w->zSn ⟨w,σ,[]⟩ B1.sg->GG B1 σ1 β1 st' tmps w'->
   LeavesInM (FR none) 0 P fn tmps R (Ds.map mark) .returning w':=by
 intro Ds
 induction Ds with
 | cons D r ih =>
   intro B1 σ1 β1 w' hn hD hw hgr hg;obtain ⟨hn1,hn2⟩:=List.nodup_cons.1 hn;obtain ⟨d1,d2⟩:=hD D (yA ..);rw [Base.relock B1 d1] at hg;obtain ⟨_,hl2,_⟩:=hg.locked rfl;have zD0: ∀ b,b≠D->(B1.sg.del D) b=B1.sg b:=fun b hb=>by unfold Sig.del;rw [if_neg hb]
   obtain ⟨hg2,_⟩:=hg.unlock rfl (by show B1.w.heap.size<=D;rw [hw];exact d2) (by show (B1.sg.del D) D=none;unfold Sig.del;rw [if_pos rfl]) (.deferred none);refine ⟨by simp,.inl ⟨D,_,rfl,run_takeDeferred hl2,ih {B1 with sg:=B1.sg.del D} _ _ _ hn2 (fun D' hD'=> ?_) hw ⟨fun b o e=> ?_,fun b hb=> ?_⟩ hg2⟩⟩
   ·obtain ⟨k1,k2⟩:=hD D' (zS _ hD');exact ⟨by show (B1.sg.del D) D'=_;rw [zD0 _ (fun e=>hn1 (e▸hD'))];exact k1,k2⟩
   ·have hb:b≠D:=fun hb=>by subst hb;have:=hag.lt e;omega
    show ∃ o',(B1.sg.del D) b=some o'/\_;rw [zD0 b hb];exact hgr.1 b o e
   ·have hb:b<w.heap.size:=hb;show (B1.sg.del D) b=_;rw [zD0 b (by omega)];exact hgr.2 b hb
 | nil =>
   intro B1 σ1 β1 w' _ _ hw hgr hg;exact hend B1 σ1 β1 w' hw hgr hg
theorem zXL (R:jK P T) (hSQ:zD3 P SQ) {f:FuncId} {fn:Func} {c:Code} (hf:P.funcs[f]? =some fn) (hb:fn.body=some c) (hok:zAg fn.ntmps c=true)
 {args:List AV} (hl:args.length<=fn.ntmps) {q:Option Prop} {u:AV} {us:List Ob} (h:zBj args->Opt q->zQT T SQ fn args (fun v obs=>v=u/\obs=us)):zCk P f args (none,q,u,us):=by
 intro σ vals w hag hv;refine ⟨trivial,fun hq=> ?_⟩;have hga:=zIS (N:=fn.ntmps) hag hv hl;have hk:=h (zCE hv) hq;simp only [zQT,hb,St.forceAll_eq] at hk;refine (callsIn_of_wp_marks (F:=Fence.wide) (n:=0) hf hb trivial ?_).calls (fun _ _ hd=>by cases hd);rw [<- FR.none];refine zOB (B0:=⟨w,σ,[]⟩) R hSQ c hok ⟨rfl,⟨Sig.le.refl _,fun _ _=>rfl⟩,[],rfl,List.nodup_nil,fun D hD=>by cases hD⟩ hga hk fun e B1 st' a' w' hm hp h'=> ?_
 have fin:(match fn.results.toList.all (zFs T st')&&(nodupB (zAp (zAS T fn st').parts)&&zLC st'.hp (zAp (zAS T fn st').parts)) with
  | true=>(zAS T fn st').mapAS (zSp (zAp (zAS T fn st').parts))=u/\zJa st'.hp (zAp (zAS T fn st').parts)=us
  | false=>False)->LeavesInM (FR none) 0 P fn a'.tmps (fun e w'=> ∃ v σ' β',e= .returned v/\σ.le σ'/\Ag σ' w'/\
  (∀ b,b<w.heap.size->σ' b=σ b)/\y5 σ' β' u v/\zBn σ' w.heap.size w' us β'/\Below w.heap.size w w') a'.defers .returning w':=by
  intro hu;split at hu
  case h_2=>exact hu.elim
  rename_i hallok;rw [zC,zC] at hallok;obtain ⟨hallok,hnd,hrows⟩:=hallok;obtain ⟨σ1,β1,hg⟩:=h'.gg;obtain ⟨Ds,e1,e2,e3⟩:=hm.ds;rw [h'.defers,e1];refine zPM (w:=w) (σ:=σ) (st':=st') (fun B1 σ1 β1 w' hw hgr hg=> ?_) hag Ds B1 σ1 β1 w' e2 e3 hm.w hm.grew hg;have hsl:σ.le σ1:=Sig.le.trans hgr.1 hg.grew.1;have hsb: ∀ b,b<w.heap.size->σ1 b=σ b:=fun b hb=>(hg.grew.2 b (by rw [hw];exact hb)).trans (hgr.2 b hb)
  have hbel:Below w.heap.size w w':=by have:=hg.bel;rw [hw] at this;exact this
  obtain ⟨vs,hrun,hall⟩:=zB9 (P:=P) (w:=w') (fn:=fn) (tmps:=a'.tmps) (Q:=fun r v=>y5 σ1 β1 (zEB T st' r) v) (fun r hr=>by
   have hro:=zK.1 hallok r hr;cases r with
   | tmp t=>exact ⟨_,rfl,hg.env t⟩
   | cell a t =>
     simp only [zFs] at hro;simp only [zEB];have hx:=hg.env a;split at hro
     ·rename_i id i k hea;rw [hea] at hx;split at hro
      ·rename_i v hv;obtain ⟨p,_,hptr,_⟩:=hx;obtain ⟨_,hrun⟩:=zBc (w:=w') R.ty R.one hg.mem (t:=t) (hg.env a) (p:=none) (q:=none) (v:=v) (by rw [hea];exact hv);obtain ⟨val,h1,h2⟩:=hrun trivial;refine ⟨val,?_,h2⟩;rw [hptr] at h1 ⊢;rw [zBK] at h1;simp only [asAddr,Sem.run_bind,Sem.run_pure,Result.andThen_ok];exact h1
      ·cases hro
     ·cases hro)
  refine ⟨_,hrun,_,σ1,(zAp (zAS T fn st').parts).map fun i=>(β1[i]?).getD none,rfl,hsl,hg.mem.ag,hsb,?_,?_,hbel⟩
  ·exact ((zGe hall).mapAS fun a v ha=>y4.ren (ids:=zAp (zAS T fn st').parts) ha) |> fun h=>by rw [hu.1] at h;exact h
  ·have:=zFM (w:=w') hg.mem.ob (fun id ob p hi hp=>by have:=hg.sep id ob p hi hp;rw [hw] at this;exact this) _ hnd hrows;rw [hu.2] at this;exact this
 cases e with
 | normal=>simp only [zSd,AV.force_eq] at hp;exact fin hp
 | ret=>simp only [zSd,AV.force_eq] at hp;exact fin hp
 | _=>exact hp.elim
end
end Go.Vm
open Go Go.Vm Go.Proofs
namespace S1
theorem z0R (x:yI.T) (v:Int) (g:Good x):zQT ⟨tyL,[(90,zF0),(121,zKp),(122,zKm),(130,zFp),(94,zCZ)],[]⟩ z7b Tryz.f142 [(ETy.pt yI).av (some x),y7.av v] (fun r obs=>r= .s (.own 0 0 (zDE x v).length)/\obs=[.row y7 3 (zDE x v)]):=by
 obtain ⟨hl,ha⟩:=zG8 g v;have hd:=zTc ha;have hL:=zUn ha (yT (some x) v).length;have ho:=zUi x (yT (some x) v);have ho2:=ho _ (zI _)
 repeat' (conv=>whnf
          first|done|refine qN (by first|rfl|omega|(simp only [yO] at *;omega)) ?_|apply qH|refine qG fun _=> ?_|apply qB|apply qa|apply qo|refine qe (fun _=> ?_) (fun _=> ?_)|refine qn (fun _=> ?_) (fun _=> ?_)|refine qd (fun _=> ?_) (fun _=> ?_)|apply qt|refine qi (fun _=> ?_) (fun _=> ?_)|refine zB (yT (some x) v) (zA (yJ.out ?_) (zB (zOi x (yT (some x) v)) ?_))|(refine zA (fun X=> ?_) (fun X=> ?_))|(refine zA (zA ?_ (zA ?_ rfl)) (fun k hk=> ?_))|(refine zA ?_ (zA ?_ rfl))|refine zA rfl ?_|apply qE|apply qO|exact zN|apply qq|apply qs|refine qK (by kernel_rfl) ?_|apply qr)
 all_goals try first|apply qz1|apply qz2|apply qz3|apply qz4|apply qz5|apply qz6|apply qz7|apply qz8|apply qz9|apply qz0
 all_goals try simp only [zZ,zR,yE,z6,qn1,zY,qn2,zX,ETy.dflt,qn3,qn4,Int.reduceToNat,Int.reduceAdd,Int.reduceSub,Int.reduceNeg,Nat.reduceAdd,zD] at *
 ·exact yJ.intro ⟨rfl,some x,v,rfl,fun y e=>by cases e;exact g,rfl⟩
 ·exact yJ.intro (Int.le_trans (hd k) (by decide))
 ·exact yJ.intro (Int.le_trans (zMO g _) (by decide))
 ·have:=ho k (Nat.le_of_lt hk);refine yJ.intro ?_;omega
 ·rw [zQc _ _ _ hk,zO];exact jL.intro rfl
 ·exact zQc _ _ _ hk
 ·exact yJ.intro ⟨g,hL⟩
 ·exact yJ.intro (Int.le_trans hL (by decide))
 ·exact yJ.intro (Int.le_trans (zLP g _) (by decide))
 ·refine yJ.intro ?_;omega
 ·rename_i h1 h2;unfold zDE;rw [if_pos ⟨h1,h2⟩,zO];rfl
 ·rename_i h1 h2;unfold zDE;rw [if_pos ⟨h1,h2⟩]
 ·rename_i h1 h2;unfold zDE;rw [if_neg (fun e=>h2 e.2),List.append_nil]
 ·rename_i h1 h2;unfold zDE;rw [if_neg (fun e=>h2 e.2),List.append_nil]
 ·rename_i h1;unfold zDE;rw [if_neg (fun e=>h1 e.1),List.append_nil]
 ·rename_i h1;unfold zDE;rw [if_neg (fun e=>h1 e.1),List.append_nil]
theorem zX5 (v:Int):zQT ⟨tyL,[(90,zF0),(121,zKp),(122,zKm),(130,zFp),(94,zCZ)],[]⟩ z7b Tryz.f142 [(ETy.pt yI).av none,y7.av v] (fun r obs=>r= .s (.own 0 0 0)/\obs=[.row y7 3 []]):=by
 repeat' (conv=>whnf
          first|done|refine qN (by first|rfl|omega|(simp only [yO] at *;omega)) ?_|apply qH|refine qG fun _=> ?_|apply qB|apply qa|apply qo|refine qe (fun _=> ?_) (fun _=> ?_)|refine qn (fun _=> ?_) (fun _=> ?_)|refine qd (fun _=> ?_) (fun _=> ?_)|apply qt|refine qi (fun _=> ?_) (fun _=> ?_)|refine zB [] (zA (yJ.out ?_) (zB z5y ?_))|(refine zA (fun X=> ?_) (fun X=> ?_))|(refine zA (zA ?_ (zA ?_ rfl)) (fun k hk=>absurd hk (Nat.not_lt_zero _)))|refine zA rfl ?_|apply qE|apply qO|exact zN|apply qq|apply qs|refine qK (by kernel_rfl) ?_|apply qr)
 all_goals try first|apply qz1|apply qz2|apply qz3|apply qz4|apply qz5|apply qz6|apply qz7|apply qz8|apply qz9|apply qz0
 all_goals try simp only [zZ,zR,yE,z6,qn1,zY,qn2,zX,ETy.dflt,qn3,qn4,Int.reduceToNat,Int.reduceAdd,Int.reduceSub,Int.reduceNeg,Nat.reduceAdd,zD] at *
 exact yJ.intro ⟨rfl,none,v,rfl,fun y e=>(by cases e),rfl⟩
def zXX:List AV->Option zKI:=zCs (.pt yI) y7 (fun o v=>some (none,some (∀ x,o=some x->Good x),.s (.own 0 0 (zB7 o v).length),[.row y7 3 (zB7 o v)]))
theorem z0x:zDB Tryz.prog 142 zXX:=⟨zQk fun o v r h=>by
 cases h;cases o with
 | none=>exact zXL (yM (fn:=[(90,zF0),(121,zKp),(122,zKm),(130,zFp),(94,zCZ)]) (fr:=[]) ⟨zIK,zLL,zL7,zHs,zES,trivial⟩ trivial) z8T Tryz.func142 rfl (by kernel_rfl) (zU rfl) fun _ _=>zX5 v
 | some x=>exact zXL (yM (fn:=[(90,zF0),(121,zKp),(122,zKm),(130,zFp),(94,zCZ)]) (fr:=[]) ⟨zIK,zLL,zL7,zHs,zES,trivial⟩ trivial) z8T Tryz.func142 rfl (by kernel_rfl) (zU rfl) fun _ h=>z0R x v (h x rfl),_,Tryz.func142,by kernel_rfl,by kernel_rfl⟩
end S1
open Go Go.Vm Go.Proofs
namespace S1
def z60 {ρ:Type} (e b c:ETy) (f:e.T->b.T->c.T->Option ρ):List AV->Option ρ :=
 zOb (.pt e) b c (fun o y z=>match o with|some x=>f x y z|none=>none)
theorem zYd {P:Program} {e b c:ETy} {f:e.T->b.T->c.T->Option Res} {n:FuncId} (h: ∀ x y z r,f x y z=some r->zCr P n [(ETy.pt e).av (some x),b.av y,c.av z] r): ∀ args r,z60 e b c f args=some r->zCr P n args r :=
 zDM fun o y z r hr=>by cases o with|none=>cases hr|some x=>exact h x y z r hr
def zOm (v:Int):List Int->Nat->Int
 | [],_=> -1
 | a::r,i=>if v=a then (i:Int) else zOm v r (i+1)
def z26 (v:Int) (l:List Int):Spec Nat where
 inv x:=x<=l.length/\zOm v l 0=zOm v (l.drop x) x
 live x:=[(8,.s (.int .i64 x))]
 keep:=[0,1,7]
 heap _:=[]
 keepH:=[]
 mu x:=l.length - x
theorem zYS {fn} (l:List Int) (v:Int):zAG ⟨tyL,fn,[]⟩ Tryz.f102 [(ETy.sl y7).av l,y7.av v] (fun r=>r= .s (.int .i64 (zOm v l 0))):=by
 repeat' (conv=>whnf
          first|done|refine qN (by first|rfl|omega|(simp only [yO] at *;omega)) ?_|apply qH|refine qG fun _=> ?_|apply qB|apply qa|apply qo|refine qe (fun _=> ?_) (fun _=> ?_)|refine qn (fun _=> ?_) (fun _=> ?_)|refine qd (fun _=> ?_) (fun _=> ?_)|apply qt|refine qi (fun _=> ?_) (fun _=> ?_)|(refine qS 2 rfl ?_;refine Or.inr (zB (Nat) (zB (z26 v l) (zA (zB (0) (zA (yJ.out ?_) (zA ?_ (zA ?_ rfl)))) (fun x hx=> ?_)))))|((with_reducible show (∃ y,And (Spec.inv (z26 _ _) y) _));refine zB (x+1) (zA (yJ.out ?_) (zA (zA ?_ (zA ?_ rfl)) (yJ.out ?_))))|refine zA rfl ?_|apply qE|apply qO|exact zN|apply qq|apply qs|refine qK (by kernel_rfl) ?_|apply qr)
 all_goals try first|apply qz1|apply qz2|apply qz3|apply qz4|apply qz5|apply qz6|apply qz7|apply qz8|apply qz9|apply qz0
 all_goals try simp only [zZ,zR,yE,z6,qn1,zY,qn2,zX,ETy.dflt,qn3,qn4,Int.reduceToNat,Int.reduceAdd,Int.reduceSub,Int.reduceNeg,Nat.reduceAdd,zD,z26] at *
 ·exact yJ.intro ⟨Nat.zero_le _,rfl⟩
 ·rename_i h1 h2;rw [hx.2,zBM 0 h1,zOm,if_pos h2]
 ·rename_i h1 h2;exact yJ.intro ⟨by omega,by rw [hx.2,zBM 0 h1,zOm,if_neg h2]⟩
 ·exact yJ.intro (by omega)
 ·rw [hx.2,zE3 (by assumption)];rfl
def zFT:List AV->Option Res:=zCs (.sl y7) y7 (fun l v=>some (none,none,.s (.int .i64 (zOm v l 0))))
theorem zIo:qM Tryz.prog 102 zFT:=⟨jC fun l v r h=>by cases h;exact qL (yM (fn:=[]) (fr:=[]) trivial trivial) Tryz.func102 (by kernel_rfl) fun _ _=>zYS l v,_,Tryz.func102,by kernel_rfl,by kernel_rfl⟩
def zDw (v:Int) (l:List Int):Bool:=decide (zOm v l 0>=0)
theorem zQN (l:List Int) (v:Int):zAG ⟨tyL,[(102,zFT)],[]⟩ Tryz.f103 [(ETy.sl y7).av l,y7.av v] (fun r=>r= .s (.bool (zDw v l))):=by
 repeat' (conv=>whnf
          first|done|refine qN (by first|rfl|omega|(simp only [yO] at *;omega)) ?_|apply qH|refine qG fun _=> ?_|apply qB|apply qa|apply qo|refine qe (fun _=> ?_) (fun _=> ?_)|refine qn (fun _=> ?_) (fun _=> ?_)|refine qd (fun _=> ?_) (fun _=> ?_)|apply qt|refine qi (fun _=> ?_) (fun _=> ?_)|refine zA rfl ?_|apply qE|apply qO|exact zN|apply qq|apply qs|refine qK (by kernel_rfl) ?_|apply qr)
 all_goals try first|apply qz1|apply qz2|apply qz3|apply qz4|apply qz5|apply qz6|apply qz7|apply qz8|apply qz9|apply qz0
 all_goals try simp only [zZ,zR,yE,z6,qn1,zY,qn2,zX,ETy.dflt,qn3,qn4,Int.reduceToNat,Int.reduceAdd,Int.reduceSub,Int.reduceNeg,Nat.reduceAdd,zD,zDw] at *
def zAe:List AV->Option Res:=zCs (.sl y7) y7 (fun l v=>some (none,none,.s (.bool (zDw v l))))
theorem zC1:qM Tryz.prog 103 zAe:=⟨jC fun l v r h=>by cases h;exact qL (yM (fn:=[(102,zFT)]) (fr:=[]) ⟨zIo,trivial⟩ trivial) Tryz.func103 (by kernel_rfl) fun _ _=>zQN l v,_,Tryz.func103,by kernel_rfl,by kernel_rfl⟩
def zDb (x:yI.T) (a b:Int):List Int:=(if qJ x (a,b)>=0 then [yR x (qJ x (a,b))] else [])++(if qJ x (b,a)>=0 then [yR x (qJ x (b,a))] else [])
theorem zUd {x:yI.T} (g:Good x) (e:Int×Int):qJ x e<=1000000000:=by
 unfold qJ;cases h:jS .arr2 x.2.1 e with
 | none=>decide
 | some c =>
   have:=yH.1 (g.map _ _ h).1;have:=g.fit.2.2.1;exact (show @LE.le Int _ c (1000000000:Int) by omega)
theorem zSO (x:yI.T) (a b:Int) (g:Good x):zAG ⟨tyL,[(78,zEC),(94,zCZ)],[]⟩ Tryz.f109 [(ETy.pt yI).av (some x),y7.av a,y7.av b] (fun v=>v= .s (.sl y7 (zDb x a b))):=by
 have e0:(((List.replicate 2 ((0:Int),(0:Int))).set 0 (a,b)).set 1 (b,a)).getD 0 (0,0)=(a,b):=rfl;have e1:(((List.replicate 2 ((0:Int),(0:Int))).set 0 (a,b)).set 1 (b,a)).getD 1 (0,0)=(b,a):=rfl
 repeat' (conv=>whnf
          first|done|refine qN (by first|rfl|omega|(simp only [yO] at *;omega)) ?_|apply qH|refine qG fun _=> ?_|apply qB|apply qa|apply qo|refine qe (fun _=> ?_) (fun _=> ?_)|refine qn (fun _=> ?_) (fun _=> ?_)|refine qd (fun _=> ?_) (fun _=> ?_)|apply qt|refine qi (fun _=> ?_) (fun _=> ?_)|(refine qS 3 rfl ?_;refine Or.inl (zB (3) ?_))|refine zA rfl ?_|apply qE|apply qO|exact zN|apply qq|apply qs|refine qK (by kernel_rfl) ?_|apply qr)
 all_goals try first|apply qz1|apply qz2|apply qz3|apply qz4|apply qz5|apply qz6|apply qz7|apply qz8|apply qz9|apply qz0
 all_goals try simp only [zZ,zR,yE,z6,qn1,zY,qn2,zX,ETy.dflt,qn3,qn4,Int.reduceToNat,Int.reduceAdd,Int.reduceSub,Int.reduceNeg,Nat.reduceAdd,zD,e0,e1,zDb] at *
 all_goals first
  | exact yJ.intro (zUd g _)
  | exact yJ.intro (by decide)
  | (simp only [if_pos,if_neg, *,not_false_eq_true];rfl)
def zGH:List AV->Option Res:=z60 yI y7 y7 (fun x a b=>some (none,some (Good x),.s (.sl y7 (zDb x a b))))
theorem zK5:qM Tryz.prog 109 zGH:=⟨zYd fun x a b r h=>by cases h;exact qL (yM (fn:=[(78,zEC),(94,zCZ)]) (fr:=[]) ⟨zFx,zES,trivial⟩ trivial) Tryz.func109 (by kernel_rfl) fun _ h=>zSO x a b h,_,Tryz.func109,by kernel_rfl,by kernel_rfl⟩
end S1
open Go Go.Vm Go.Proofs
namespace S1
abbrev OS:=List Int×List Int
def ofC (x:yI.T) (k:Int) (j:Nat) (s:OS) (c:Nat):OS :=
 if 0<=zAF x (3*s.2.getD j 0+c)/\s.1.getD (zAF x (3*s.2.getD j 0+c) / 3).toNat 0<0 then
  (s.1.set (zAF x (3*s.2.getD j 0+c) / 3).toNat k,s.2++[zAF x (3*s.2.getD j 0+c) / 3]) else s
def ofJ (x:yI.T) (k:Int) (s:OS) (j:Nat):OS:=qA (ofC x k j) s 3
def bfs (x:yI.T) (k:Int):Nat->Nat->OS->OS
 | 0,_,s=>s
 | f+1,j,s=>if j<s.2.length then bfs x k f (j+1) (ofJ x k s j) else s
def ofI (x:yI.T) (s:List Int×Int) (i:Nat):List Int×Int :=
 if s.1.getD i 0>=0 then s else ((bfs x s.2 10000 0 (s.1.set i s.2,[(i:Int)])).1,s.2+1)
def ofL (x:yI.T) (i:Nat):List Int×Int:=qA (ofI x) (List.replicate x.1.2.length (-1),0) i
def ofR (x:yI.T):List Int:=(ofL x x.1.2.length).1
def unm:List Int->Nat
 | []=>0
 | a::r=>(if a<0 then 1 else 0)+unm r
theorem z1u: ∀ l:List Int,unm l<=l.length
 | []=>zI _
 | a::r=>by have:=z1u r;simp only [unm,z8];split<;>omega
theorem zOs {k:Int} (hk:0<=k): ∀ (l:List Int) (i:Nat),i<l.length->l.getD i 0<0->unm (l.set i k)+1=unm l
 | a::r,0,_,h=>by
   have h:a<0:=h;simp only [List.set_cons_zero,unm];rw [if_pos h,if_neg (by omega)];omega
 | a::r,i+1,hi,h=>by
   have:=zOs hk r i (by simpa using hi) (by simpa using h);simp only [List.set_cons_succ,unm];omega
structure OOk (n:Nat) (s:OS):Prop where
 len:s.1.length=n
 td: ∀ j,j<s.2.length->0<=s.2.getD j 0/\s.2.getD j 0<n
 cnt:s.2.length+unm s.1<=n
theorem z1M {x:yI.T} (g:Good x) {d:Int} (h:0<=zAF x d):zAF x d<3*(x.1.2.length:Int):=(yH.1 (g.opp h).2.1).2
theorem z5k {x:yI.T} (g:Good x) {k:Int} (hk:0<=k) {j:Nat} {s:OS} (h:OOk x.1.2.length s) (c:Nat):OOk x.1.2.length (ofC x k j s c):=by
 unfold ofC;split
 ·rename_i hc;have hi:=z1M g hc.1;refine ⟨by rw [List.length_set];exact h.len,fun j' hj=> ?_,?_⟩
  ·by_cases e:j'<s.2.length
   ·have:=h.td j' e
    have e2:(s.2++[zAF x (3*s.2.getD j 0+c) / 3]).getD j' 0=s.2.getD j' 0:=by
     rw [zQ,List.getElem?_append_left e,<- zQ]
    show 0<=(s.2++_).getD j' 0/\_;rw [e2];exact this
   ·have hj:j'<(s.2++[zAF x (3*s.2.getD j 0+c) / 3]).length:=hj;rw [zO,List.length_singleton] at hj;have e3:j'=s.2.length:=by omega
    subst e3
    have e2:(s.2++[zAF x (3*s.2.getD j 0+c) / 3]).getD s.2.length 0=zAF x (3*s.2.getD j 0+c) / 3:=by
     rw [zQ,List.getElem?_append_right (zI _)];simp
    show 0<=(s.2++_).getD s.2.length 0/\_;rw [e2];omega
  ·have:=zOs hk s.1 _ (by rw [h.len];omega) hc.2;have h3:=h.cnt;show (s.2++[_]).length+unm (s.1.set (zAF x (3*s.2.getD j 0+c) / 3).toNat k)<=x.1.2.length;rw [zO,List.length_singleton];omega
 ·exact h
theorem zPB {x:yI.T} (g:Good x) {k:Int} (hk:0<=k) {j:Nat} {s:OS} (h:OOk x.1.2.length s): ∀ c,OOk x.1.2.length (qA (ofC x k j) s c)
 | 0=>h
 | c+1=>z5k g hk (zPB g hk h c) c
theorem zUD {x:yI.T} (g:Good x) {k:Int} (hk:0<=k) {j:Nat} {s:OS} (h:OOk x.1.2.length s):OOk x.1.2.length (ofJ x k s j):=by
 unfold ofJ;exact zPB g hk h 3
theorem zTQ {x:yI.T} (g:Good x) {k:Int} (hk:0<=k) {s:OS} (h:OOk x.1.2.length s): ∀ j,OOk x.1.2.length (qA (ofJ x k) s j)
 | 0=>h
 | j+1=>zUD g hk (zTQ g hk h j)
theorem z1G {x:yI.T} (g:Good x) {k:Int} (hk:0<=k): ∀ (f j:Nat) {s:OS},OOk x.1.2.length s->OOk x.1.2.length (bfs x k f j s)
 | 0,_,_,h=>h
 | f+1,j,s,h=>by
   unfold bfs;split
   ·exact z1G g hk f (j+1) (zUD g hk h)
   ·exact h
theorem zLj {n i:Nat} {l:List Int} {k:Int} (hk:0<=k) (hl:l.length=n) (hi:i<n) (h: ¬ l.getD i 0>=0):OOk n (l.set i k,[(i:Int)]):=by
 refine ⟨by rw [List.length_set];exact hl,fun j hj=> ?_,?_⟩
 ·have hj:j<1:=hj;have:j=0:=by omega
  subst this;show (0:Int)<=i/\(i:Int)<n;omega
 ·have:=zOs hk l i (by omega) (by omega);have h2:=z1u l;show 1+unm (l.set i k)<=n;omega
theorem zRR {x:yI.T} (g:Good x): ∀ i,i<=x.1.2.length->(ofL x i).1.length=x.1.2.length/\0<=(ofL x i).2/\(ofL x i).2<=i
 | 0,_=>⟨List.length_replicate,Int.le_refl 0,Int.le_refl 0⟩
 | i +1,hi=>by
   obtain ⟨h1,h2,h3⟩:=zRR g i (by omega);show (ofI x (ofL x i) i).1.length=_/\0<=(ofI x (ofL x i) i).2/\(ofI x (ofL x i) i).2<=_;unfold ofI;split
   ·exact ⟨h1,h2,by omega⟩
   ·rename_i hn;exact ⟨(z1G g h2 10000 0 (zLj h2 h1 (by omega) hn)).len,by show 0<=(ofL x i).2+1;omega,by show (ofL x i).2+1<=_;omega⟩
theorem z8i {x:yI.T} {k:Int} {j c:Nat} {s:OS} (h1:zAF x (3*s.2.getD j 0+c)>=0) (h2:s.1.getD ((zAF x (3*s.2.getD j 0+c)).tdiv 3).toNat 0<0) :
 ofC x k j s c=(s.1.set ((zAF x (3*s.2.getD j 0+c)).tdiv 3).toNat k,s.2++[(zAF x (3*s.2.getD j 0+c)).tdiv 3]):=by
 rw [td3 h1] at *;unfold ofC;rw [if_pos ⟨h1,h2⟩]
theorem z5X {x:yI.T} {k:Int} {j c:Nat} {s:OS} (h1:zAF x (3*s.2.getD j 0+c)>=0) (h2: ¬ s.1.getD ((zAF x (3*s.2.getD j 0+c)).tdiv 3).toNat 0<0):ofC x k j s c=s:=by
 rw [td3 h1] at *;unfold ofC;rw [if_neg (fun e=>h2 e.2)]
theorem z6B {x:yI.T} {k:Int} {j c:Nat} {s:OS} (h1: ¬ zAF x (3*s.2.getD j 0+c)>=0):ofC x k j s c=s:=by
 unfold ofC;rw [if_neg (fun e=>h1 e.1)]
theorem z3c {x:yI.T} {k:Int} {j c:Nat} {s:OS} :s.2.length<=(ofC x k j s c).2.length:=by
 unfold ofC;split
 ·show _<=(s.2++[_]).length;rw [zO];omega
 ·exact zI _
theorem zSH {x:yI.T} {k:Int} {j:Nat} {s:OS} : ∀ c,s.2.length<=(qA (ofC x k j) s c).2.length
 | 0=>zI _
 | c+1=>Nat.le_trans (zSH c) z3c
theorem zVx (x:yI.T) (k:Int) (j:Nat) (s:OS) (c:Nat):qA (ofC x k j) s (c+1)=ofC x k j (qA (ofC x k j) s c) c:=rfl
theorem z5g (x:yI.T) (k:Int) (s:OS) (j:Nat):qA (ofJ x k) s (j+1)=qA (ofC x k j) (qA (ofJ x k) s j) 3:=by
 rw [qA,ofJ]
theorem z6d {x:yI.T} {k:Int} {j:Nat} {s s0:OS} (hj:j<10000) (h:(j:Int)<s.2.length) (e:bfs x k 10000 0 s0=bfs x k (10000 - j) j s):bfs x k 10000 0 s0=bfs x k (10000 - (j+1)) (j+1) (ofJ x k s j):=by
 rw [e,show 10000 - j=(10000 - (j+1))+1 by omega,bfs,if_pos (by omega)]
theorem z4p {x:yI.T} {k:Int} {j:Nat} {s:OS} (h: ¬ (j:Int)<s.2.length): ∀ f,bfs x k f j s=s
 | 0=>rfl
 | f+1=>by rw [bfs,if_neg (by omega)]
theorem zRl {x:yI.T} {i:Nat} (h:(ofL x i).1.getD i 0>=0):ofL x (i+1)=ofL x i:=by
 show ofI x (ofL x i) i=_;unfold ofI;rw [if_pos h]
theorem z1F {x:yI.T} {i:Nat} (h: ¬ (ofL x i).1.getD i 0>=0):ofL x (i+1)=((bfs x (ofL x i).2 10000 0 ((ofL x i).1.set i (ofL x i).2,[(i:Int)])).1,(ofL x i).2+1):=by
 show ofI x (ofL x i) i=_;unfold ofI;rw [if_neg h]
theorem zRx {α:Type} {a b:α} : ∀ (i n:Nat),i<n->List.replicate (i+1) a++List.replicate (n - (i+1)) b=(List.replicate i a++List.replicate (n - i) b).set i a
 | 0,n+1,_=>by simp [List.replicate_succ]
 | i+1,n+1,h=>by
   have:=zRx (a:=a) (b:=b) i n (by omega);show a::(List.replicate (i+1) a++List.replicate (n+1 - (i+1+1)) b)=(a::(List.replicate i a++List.replicate (n+1 - (i+1)) b)).set (i+1) a;rw [List.set_cons_succ,show n+1 - (i+1+1)=n - (i+1) by omega,show n+1 - (i+1)=n - i by omega,this]
attribute [irreducible] ofC ofJ bfs ofI
def zVY (n:Nat):Spec Nat where
 inv i:=i<=n
 live i:=[(16,.s (.int .i64 i))]
 keep:=[0,3,14,15]
 heap i:=[(1,.row y7 3 (List.replicate i (-1)++List.replicate (n - i) 0))]
 keepH:=[0]
 mu i:=n - i
def zWs (x:yI.T):Spec Nat where
 inv i:=i<=x.1.2.length
 live i:=[(25,.s (.int .i64 i)),(5,.s (.int .i64 (ofL x i).2))]
 keep:=[0,3,23,24]
 heap i:=[(1,.row y7 3 (ofL x i).1)]
 keepH:=[0]
 mu i:=x.1.2.length - i
def zWg (x:yI.T) (k:Int) (s:OS):Spec Nat where
 inv j:=j<=(qA (ofJ x k) s j).2.length/\bfs x k 10000 0 s=bfs x k (10000 - j) j (qA (ofJ x k) s j)
 live j:=[(8,.s (.int .i64 j)),(7,.s (.own 2 0 (qA (ofJ x k) s j).2.length))]
 keep:=[0,3,5,6,23,24,25]
 heap j:=[(1,.row y7 3 (qA (ofJ x k) s j).1),(2,.row y7 3 (qA (ofJ x k) s j).2)]
 keepH:=[0]
 mu j:=10000 - j
def zV5 (x:yI.T) (k:Int) (j:Nat) (s:OS):Spec Nat where
 inv c:=c<=3
 live c:=[(45,.s (.int .i64 c)),(7,.s (.own 2 0 (qA (ofC x k j) s c).2.length))]
 keep:=[0,3,5,6,8,23,24,25]
 heap c:=[(1,.row y7 3 (qA (ofC x k j) s c).1),(2,.row y7 3 (qA (ofC x k j) s c).2)]
 keepH:=[0]
 mu c:=3 - c
theorem z2s (x:yI.T) (g:Good x):zAG ⟨tyL,[(74,zB8),(37,zS7)],[]⟩ Tryz.f145 [(ETy.pt yI).av (some x)] (fun v=>v= .s (.sl y7 (ofR x))):=by
 have hn:x.1.2.length<=8192:=g.fit.2.2.1
 repeat' (conv=>whnf
          first|done|refine qN (by first|rfl|omega|(simp only [yO] at *;omega)) ?_|apply qH|refine qG fun _=> ?_|apply qB|apply qa|apply qo|refine qe (fun _=> ?_) (fun _=> ?_)|refine qn (fun _=> ?_) (fun _=> ?_)|refine qd (fun _=> ?_) (fun _=> ?_)|apply qt|refine qi (fun _=> ?_) (fun _=> ?_)|(refine qS 3 rfl ?_;refine Or.inr (zB (Nat) (zB (zVY x.1.2.length) (zA (zB (0) (zA (yJ.out ?_) (zA ?_ (zA ?_ rfl)))) (fun i hi=> ?_)))))|((with_reducible show (∃ y,And (Spec.inv (zVY _) y) _));refine zB (i+1) (zA (yJ.out ?_) (zA (zA ?_ (zA ?_ rfl)) (yJ.out ?_))))|(refine qS 9 rfl ?_;refine Or.inr (zB (Nat) (zB (zWs x) (zA (zB (0) (zA (yJ.out ?_) (zA ?_ (zA ?_ rfl)))) (fun i hi=> ?_)))))|((with_reducible show (∃ y,And (Spec.inv (zWs _) y) _));refine zB (i+1) (zA (yJ.out ?_) (zA (zA ?_ (zA ?_ rfl)) (yJ.out ?_))))|(refine qS 15 rfl ?_;refine Or.inr (zB (Nat) (zB (zWg x (ofL x i).2 ((ofL x i).1.set i (ofL x i).2,[(i:Int)])) (zA (zB (0) (zA (yJ.out ?_) (zA ?_ (zA ?_ rfl)))) (fun j hj=> ?_)))))|((with_reducible show (∃ y,And (Spec.inv (zWg _ _ _) y) _));refine zB (j+1) (zA (yJ.out ?_) (zA (zA ?_ (zA ?_ rfl)) (yJ.out ?_))))|(refine qS 18 rfl ?_;refine Or.inr (zB (Nat) (zB (zV5 x (ofL x i).2 j (qA (ofJ x (ofL x i).2) ((ofL x i).1.set i (ofL x i).2,[(i:Int)]) j)) (zA (zB (0) (zA (yJ.out ?_) (zA ?_ (zA ?_ rfl)))) (fun c hc=> ?_)))))|((with_reducible show (∃ y,And (Spec.inv (zV5 _ _ _ _) y) _));refine zB (c+1) (zA (yJ.out ?_) (zA (zA ?_ (zA ?_ rfl)) (yJ.out ?_))))|refine zA rfl ?_|apply qE|apply qO|exact zN|apply qq|apply qs|refine qK (by kernel_rfl) ?_|apply qr)
 all_goals try first|apply qz1|apply qz2|apply qz3|apply qz4|apply qz5|apply qz6|apply qz7|apply qz8|apply qz9|apply qz0
 all_goals try simp only [zZ,zR,yE,z6,qn1,zY,qn2,zX,ETy.dflt,qn3,qn4,Int.reduceToNat,Int.reduceAdd,Int.reduceSub,Int.reduceNeg,Nat.reduceAdd,zD,zVY,zWs,zWg,zV5] at *
 all_goals try (refine yJ.intro ?_;omega)
 ·exact zRx _ _ (by omega)
 ·have e:i=x.1.2.length:=by omega
  subst e;rw [Nat.sub_self];simp only [List.replicate_zero,List.append_nil];rfl
 ·rw [zRl (by assumption)]
 ·rw [zRl (by assumption)]
 all_goals try
  have hL:=zRR g i (by omega);have h0:=zLj (n:=x.1.2.length) (i:=i) hL.2.1 hL.1 (by omega) (by assumption)
 ·exact yJ.intro ⟨Nat.zero_le _,rfl⟩
 ·rfl
 all_goals try have hJ:=zTQ g hL.2.1 h0 j
 all_goals try
  have hC:=zPB g hL.2.1 (j:=j) hJ c;have hlen:=zSH (x:=x) (k:=(ofL x i).2) (j:=j) (s:=qA (ofJ x (ofL x i).2) ((ofL x i).1.set i (ofL x i).2,[(i:Int)]) j) c;have hd:=hC.td j (by omega)
 all_goals try have hjc:=hJ.cnt
 all_goals try have hcc:=hC.cnt
 all_goals try (refine yJ.intro ?_;(try unfold yO);omega)
 all_goals try (exact yJ.intro (show @LE.le Int _ (3*(qA (ofC x (ofL x i).2 j) (qA (ofJ x (ofL x i).2) ((ofL x i).1.set i (ofL x i).2,[(i:Int)]) j) c).2.getD j 0+c) (1000000:Int) by omega))
 all_goals try (rw [zVx,z8i (by assumption) (by assumption)];first|done|exact zO)
 all_goals try (rw [zVx,z5X (by assumption) (by assumption)];done)
 all_goals try (rw [zVx,z6B (by assumption)];done)
 all_goals try (
  have:=z1M g ‹_›
  first
   | (refine yJ.intro ⟨by decide,?_⟩;rw [td3 (by assumption)];unfold yO;omega)
   | (refine yJ.intro ?_;rw [td3 (by assumption)];omega))
 all_goals try (
  have e:c=3:=by omega
  subst e
  first
   | (rw [z5g];done)
   | exact yJ.intro ⟨by rw [z5g];omega,z6d (by omega) (by assumption) hj.2⟩)
 ·rw [z1F (by assumption)]
 ·rw [z1F (by assumption),hj.2,z4p (by assumption)]
 ·have e:i=x.1.2.length:=by omega
  rw [e];unfold ofR;rw [List.drop_zero,List.take_of_length_le (by rw [(zRR g _ (zI _)).1];exact zI _)]
def z40:List AV->Option Res:=zYw yI (fun x=>some (none,some (Good x),.s (.sl y7 (ofR x))))
theorem z4y:qM Tryz.prog 145 z40:=⟨zLo fun x r h=>by cases h;exact qL (yM (fn:=[(74,zB8),(37,zS7)]) (fr:=[]) ⟨zEO,zJz,trivial⟩ trivial) Tryz.func145 (by kernel_rfl) fun _ h=>z2s x h,_,Tryz.func145,by kernel_rfl,by kernel_rfl⟩
end S1
open Go Go.Vm Go.Proofs
namespace S1
def smC (x:yI.T) (i:Nat) (b:Bool) (c:Nat):Bool:=b|| decide (zAF x (3*i+c)<0)
def smI (x:yI.T) (l:List Int) (m:Int) (s:Int×Bool) (i:Nat):Int×Bool :=
 if l.getD i 0≠m then s else (s.1+1,qA (smC x i) s.2 3)
def smS (x:yI.T) (m:Int) (i:Nat):Int×Bool:=qA (smI x (ofR x) m) (0,false) i
def smM (x:yI.T) (v:Int):Int:=(ofR x).getD (yX x v / 3).toNat 0
def zB1 (x:yI.T) (v:Int):Bool:=decide ((smS x (smM x v) (ofR x).length).1=1)|| (decide ((smS x (smM x v) (ofR x).length).1=4)&& !(smS x (smM x v) (ofR x).length).2)
theorem zLH {x:yI.T} (g:Good x):(ofR x).length=x.1.2.length:=(zRR g _ (zI _)).1
theorem z56 (x:yI.T) (m:Int) (i:Nat):smS x m (i+1)=smI x (ofR x) m (smS x m i) i:=rfl
theorem zN5 {x:yI.T} {m:Int} {i:Nat} (h:(ofR x).getD i 0≠m):smS x m (i+1)=smS x m i:=by
 rw [z56];unfold smI;rw [if_pos h]
theorem zJO {x:yI.T} {m:Int} {i:Nat} (h:(ofR x).getD i 0=m):smS x m (i+1)=((smS x m i).1+1,qA (smC x i) (smS x m i).2 3):=by
 rw [z56];unfold smI;rw [if_neg (fun e=>e h)]
theorem z2H (x:yI.T) (m:Int): ∀ i,0<=(smS x m i).1/\(smS x m i).1<=i
 | 0=>⟨Int.le_refl 0,Int.le_refl 0⟩
 | i+1=>by
   have:=z2H x m i
   by_cases h:(ofR x).getD i 0=m
   ·rw [zJO h];show 0<=(smS x m i).1+1/\(smS x m i).1+1<=_;omega
   ·rw [zN5 h];omega
theorem z5E (x:yI.T) (i:Nat) (b:Bool) (c:Nat):qA (smC x i) b (c+1)=(qA (smC x i) b c|| decide (zAF x (3*i+c)<0)):=rfl
def zU2 (x:yI.T) (m:Int):Spec Nat where
 inv i:=i<=(ofR x).length
 live i:=[(23,.s (.int .i64 i)),(7,.s (.int .i64 (smS x m i).1)),(8,.s (.bool (smS x m i).2))]
 keep:=[0,1,6,21,22]
 heap _:=[]
 keepH:=[]
 mu i:=(ofR x).length - i
def zVV (x:yI.T) (i:Nat) (b:Bool):Spec Nat where
 inv c:=c<=3
 live c:=[(11,.s (.int .i64 (3*i+c))),(8,.s (.bool (qA (smC x i) b c)))]
 keep:=[0,1,6,7,9,21,22,23]
 heap _:=[]
 keepH:=[]
 mu c:=3 - c
theorem z0s (x:yI.T) (v:Int) (h:Good x/\j6 x (yX x v)=true):zAG ⟨tyL,[(145,z40),(124,zE0),(37,zS7)],[]⟩ Tryz.f111 [(ETy.pt yI).av (some x),y7.av v] (fun r=>r= .s (.bool (zB1 x v))):=by
 have hn:x.1.2.length<=8192:=h.1.fit.2.2.1;have hl:=zLH h.1;have hc0:=yH.1 h.2;have hm:(ofR x).getD ((yX x v).tdiv 3).toNat 0=smM x v:=by rw [td3 hc0.1];rfl
 repeat' (conv=>whnf
          first|done|refine qN (by first|rfl|omega|(simp only [yO] at *;omega)) ?_|apply qH|refine qG fun _=> ?_|apply qB|apply qa|apply qo|refine qe (fun _=> ?_) (fun _=> ?_)|refine qn (fun _=> ?_) (fun _=> ?_)|refine qd (fun _=> ?_) (fun _=> ?_)|apply qt|refine qi (fun _=> ?_) (fun _=> ?_)|(refine qS 5 rfl ?_;refine Or.inr (zB (Nat) (zB (zU2 x (smM x v)) (zA (zB (0) (zA (yJ.out ?_) (zA ?_ (zA ?_ rfl)))) (fun i hi=> ?_)))))|((with_reducible show (∃ y,And (Spec.inv (zU2 _ _) y) _));refine zB (i+1) (zA (yJ.out ?_) (zA (zA ?_ (zA ?_ rfl)) (yJ.out ?_))))|(refine qS 10 rfl ?_;refine Or.inr (zB (Nat) (zB (zVV x i (smS x (smM x v) i).2) (zA (zB (0) (zA (yJ.out ?_) (zA ?_ (zA ?_ rfl)))) (fun c hc=> ?_)))))|((with_reducible show (∃ y,And (Spec.inv (zVV _ _ _) y) _));refine zB (c+1) (zA (yJ.out ?_) (zA (zA ?_ (zA ?_ rfl)) (yJ.out ?_))))|refine zA rfl ?_|apply qE|apply qO|exact zN|apply qq|apply qs|refine qK (by kernel_rfl) ?_|apply qr)
 all_goals try first|apply qz1|apply qz2|apply qz3|apply qz4|apply qz5|apply qz6|apply qz7|apply qz8|apply qz9|apply qz0
 all_goals try simp only [zZ,zR,yE,z6,qn1,zY,qn2,zX,ETy.dflt,qn3,qn4,Int.reduceToNat,Int.reduceAdd,Int.reduceSub,Int.reduceNeg,Nat.reduceAdd,zD,zU2,zVV] at *
 all_goals try (refine yJ.intro ?_;omega)
 all_goals try have hS:=z2H x (smM x v) i
 all_goals try rw [hm] at *
 ·exact yJ.intro h.1
 ·refine yJ.intro ⟨by decide,?_⟩;rw [td3 hc0.1];unfold yO;omega
 ·refine yJ.intro ?_;rw [td3 hc0.1,hl];omega
 ·rw [zN5 (by assumption)]
 ·rw [zN5 (by assumption)]
 ·refine yJ.intro ?_;unfold yO;omega
 ·rw [z5E,show qA (smC x i) (smS x (smM x v) i).2 c=true by assumption];rfl
 ·exact yJ.intro (show @LE.le Int _ (3*(i:Int)+c) (1000000:Int) by omega)
 ·rw [z5E,show qA (smC x i) (smS x (smM x v) i).2 c=false by assumption];rfl
 ·rw [zJO (by assumption)]
 ·rw [zJO (by assumption)];have e:c=3:=by omega
  rw [e]
 all_goals (
  have e:i=(ofR x).length:=by omega
  unfold zB1;rw [<- e])
 ·rename_i h1;rw [h1];rfl
 ·rename_i h1 h2;rw [h2];rfl
 ·rename_i h1 h2;rw [decide_eq_false h1,decide_eq_false h2];rfl
def zNY:List AV->Option Res:=zF8 yI y7 (fun x v=>some (none,some (Good x/\j6 x (yX x v)=true),.s (.bool (zB1 x v))))
theorem zRw:qM Tryz.prog 111 zNY:=⟨zAl fun x v r h=>by cases h;exact qL (yM (fn:=[(145,z40),(124,zE0),(37,zS7)]) (fr:=[]) ⟨z4y,zGJ,zJz,trivial⟩ trivial) Tryz.func111 (by kernel_rfl) fun _ h=>z0s x v h,_,Tryz.func111,by kernel_rfl,by kernel_rfl⟩
end S1
open Go Go.Vm Go.Proofs
namespace S1
def zGV (x:yI.T) (a b:Int):List Int:=if a=b then [] else zBX ((zDE x a).filter fun v=>zDw v (zDE x b))
def z7Z (o:Option yI.T) (a b:Int):List Int:=onO o [] fun x=>zGV x a b
def z5q:List AV->Option Res:=zOb (.pt yI) y7 y7 (fun o a b=>some (none,some (∀ x,o=some x->Good x),.s (.sl y7 (z7Z o a b))))
def zSz (f:List Int):List Int->Bool
 | []=>true
 | v::r=>zDw v f&&zSz f r
def zD2 (x:yI.T) (a b:Int):Int :=
 if !zAO x a b then 1 else if (zDb x a b).length=2/\zAU x a=false/\zAU x b=false then 2
 else if zSz (zDb x a b) (zGV x a b)=false then 3 else if zB1 x a then 4 else 0
theorem zY7 {x:yI.T} (g:Good x) {a b:Int} (h:zAO x a b=true):j6 x (yX x a)=true/\j6 x (yX x b)=true:=by
 have key: ∀ {a b:Int},0<=qJ x (a,b)->j6 x (yX x a)=true/\j6 x (yX x b)=true:=fun {a b} h=>by
  unfold qJ at h;cases e:jS .arr2 x.2.1 (a,b) with
  | none=>rw [e] at h;exact absurd h (by decide)
  | some c =>
    obtain ⟨h1,h2⟩:=g.map _ _ e;have e1:yR x (qY x c)=a:=congrArg Prod.fst h2;have e2:yR x (qV x c)=b:=congrArg Prod.snd h2;have k1:=g.cor _ (zAD h1).1;have k2:=g.cor _ (zAD h1).2;rw [e1] at k1;rw [e2] at k2;exact ⟨k1,k2⟩
 unfold zAO at h;rw [Bool.or_eq_true,zP,zP] at h;rcases h with h|h
 ·exact key h
 ·exact (key h).symm
theorem z03 {α:Type} {x:yI.T} {d:α} {f:yI.T->α} :onO (some x) d f=f x:=rfl
theorem zT0 {x:yI.T} {a b:Int} :z7Z (some x) a b=zGV x a b:=rfl
attribute [local irreducible] zAO zAU zDw zB1
def z2W (x:yI.T) (a b:Int):Spec Nat where
 inv i:=i<=(zGV x a b).length/\zSz (zDb x a b) (zGV x a b)=zSz (zDb x a b) ((zGV x a b).drop i)
 live i:=[(39,.s (.int .i64 i))]
 keep:=[0,1,2,7,37,38]
 heap _:=[]
 keepH:=[]
 mu i:=(zGV x a b).length - i
theorem z6N (x:yI.T) (a b:Int) (g:Good x):zAG ⟨tyL,[(55,zMJ),(109,zGH),(46,zNB),(110,z5q),(103,zAe),(111,zNY)],[]⟩ Tryz.f69 [(ETy.pt yI).av (some x),y7.av a,y7.av b] (fun r=>r= .s (.int .i64 (zD2 x a b))):=by
 repeat' (conv=>whnf
          first|done|refine qN (by first|rfl|omega|(simp only [yO] at *;omega)) ?_|apply qH|refine qG fun _=> ?_|apply qB|apply qa|apply qo|refine qe (fun _=> ?_) (fun _=> ?_)|refine qn (fun _=> ?_) (fun _=> ?_)|refine qd (fun _=> ?_) (fun _=> ?_)|apply qt|refine qi (fun _=> ?_) (fun _=> ?_)|(refine qS 7 rfl ?_;refine Or.inr (zB (Nat) (zB (z2W x a b) (zA (zB (0) (zA (yJ.out ?_) (zA ?_ (zA ?_ rfl)))) (fun i hi=> ?_)))))|((with_reducible show (∃ y,And (Spec.inv (z2W _ _ _) y) _));refine zB (i+1) (zA (yJ.out ?_) (zA (zA ?_ (zA ?_ rfl)) (yJ.out ?_))))|refine zA rfl ?_|apply qE|apply qO|exact zN|apply qq|apply qs|refine qK (by kernel_rfl) ?_|apply qr)
 all_goals try first|apply qz1|apply qz2|apply qz3|apply qz4|apply qz5|apply qz6|apply qz7|apply qz8|apply qz9|apply qz0
 all_goals try simp only [zZ,zR,yE,z6,qn1,zY,qn2,zX,ETy.dflt,qn3,qn4,Int.reduceToNat,Int.reduceAdd,Int.reduceSub,Int.reduceNeg,Nat.reduceAdd,zD,z2W,z03,zT0] at *
 all_goals try have hnear:zAO x a b=true:=by assumption
 all_goals try have hlt:(i:Int)<((zGV x a b).length:Int):=by assumption
 all_goals try have hge: ¬ (i:Int)<((zGV x a b).length:Int):=by assumption
 all_goals try have hh:zDw ((zGV x a b).getD i 0) (zDb x a b)=true:=by assumption
 all_goals try have hf:zDw ((zGV x a b).getD i 0) (zDb x a b)=false:=by assumption
 all_goals try have hno:zAO x a b=false:=by assumption
 all_goals first
  | exact yJ.intro (fun y e=>by cases e;exact g)
  | exact yJ.intro ⟨Nat.zero_le _,rfl⟩
  | exact yJ.intro ⟨g,(zY7 g hnear).1⟩
  | (refine yJ.intro ⟨by omega,?_⟩;rw [hi.2,zBM 0 hlt,zSz,hh];rfl)
  | exact yJ.intro (by omega)
  | (have hw:zSz (zDb x a b) (zGV x a b)=true:=by rw [hi.2,zE3 hge];rfl
     clear hi;unfold zD2;(try have hfl:(zDb x a b).length=2:=by omega);(try have hfn: ¬ (zDb x a b).length=2:=by omega);simp [*];done)
  | (have hw:zSz (zDb x a b) (zGV x a b)=false:=by rw [hi.2,zBM 0 hlt,zSz,hf];rfl
     clear hi;unfold zD2;(try have hfl:(zDb x a b).length=2:=by omega);(try have hfn: ¬ (zDb x a b).length=2:=by omega);simp [*];done)
  | (unfold zD2;(try have hfl:(zDb x a b).length=2:=by omega);simp [*];done)
  | skip
end S1
open Go Go.Vm Go.Proofs
namespace S1
theorem z0B (v:Int) (l:List Int):zAG ⟨tyL,[(103,zAe)],[]⟩ Tryz.f144 [y7.av v,(ETy.pt (.sl y7)).av (some l)] (fun r=>r= .s (.bool (!zDw v l))):=by
 repeat' (conv=>whnf
          first|done|refine qN (by first|rfl|omega|(simp only [yO] at *;omega)) ?_|apply qH|refine qG fun _=> ?_|apply qB|apply qa|apply qo|refine qe (fun _=> ?_) (fun _=> ?_)|refine qn (fun _=> ?_) (fun _=> ?_)|refine qd (fun _=> ?_) (fun _=> ?_)|apply qt|refine qi (fun _=> ?_) (fun _=> ?_)|refine zA rfl ?_|apply qE|apply qO|exact zN|apply qq|apply qs|refine qK (by kernel_rfl) ?_|apply qr)
 all_goals try first|apply qz1|apply qz2|apply qz3|apply qz4|apply qz5|apply qz6|apply qz7|apply qz8|apply qz9|apply qz0
 all_goals try simp only [zZ,zR,yE,z6,qn1,zY,qn2,zX,ETy.dflt,qn3,qn4,Int.reduceToNat,Int.reduceAdd,Int.reduceSub,Int.reduceNeg,Nat.reduceAdd,zD,Option.getD_some] at *
def zNJ:List AV->Option Res:=zCs y7 (.pt (.sl y7)) (fun v o=>match o with|some l=>some (none,none,.s (.bool (!zDw v l)))|none=>none)
theorem zRZ:qM Tryz.prog 144 zNJ:=⟨jC fun v o r h=>by
 cases o with
 | none=>cases h
 | some l=>cases h;exact qL (yM (fn:=[(103,zAe)]) (fr:=[]) ⟨zC1,trivial⟩ trivial) Tryz.func144 (by kernel_rfl) fun _ _=>z0B v l,_,Tryz.func144,by kernel_rfl,by kernel_rfl⟩
attribute [local irreducible] zDw
def zRD (p:Int->Bool):List Int->Nat->Int
 | [],_=> -1
 | a::r,i=>if p a=true then (i:Int) else zRD p r (i+1)
def zTg (p:Int->Bool) (l:List Int):Spec Nat where
 inv x:=x<=l.length/\zRD p l 0=zRD p (l.drop x) x
 live x:=[(8,.s (.int .i64 x))]
 keep:=[0,1,7]
 heap _:=[]
 keepH:=[]
 mu x:=l.length - x
theorem z3r (l m:List Int):zAG ⟨tyL,[(144,zNJ)],[]⟩ Tryz.f171 [(ETy.sl y7).av l,.s (.clo 144 [⟨.sl y7,m⟩])] (fun r=>r= .s (.int .i64 (zRD (fun v=> !zDw v m) l 0))):=by
 repeat' (conv=>whnf
          first|done|refine qN (by first|rfl|omega|(simp only [yO] at *;omega)) ?_|apply qH|refine qG fun _=> ?_|apply qB|apply qa|apply qo|refine qe (fun _=> ?_) (fun _=> ?_)|refine qn (fun _=> ?_) (fun _=> ?_)|refine qd (fun _=> ?_) (fun _=> ?_)|apply qt|refine qi (fun _=> ?_) (fun _=> ?_)|(refine qS 2 rfl ?_;refine Or.inr (zB (Nat) (zB (zTg (fun v=> !zDw v m) l) (zA (zB (0) (zA (yJ.out ?_) (zA ?_ (zA ?_ rfl)))) (fun x hx=> ?_)))))|((with_reducible show (∃ y,And (Spec.inv (zTg _ _) y) _));refine zB (x+1) (zA (yJ.out ?_) (zA (zA ?_ (zA ?_ rfl)) (yJ.out ?_))))|refine zA rfl ?_|apply qE|apply qO|exact zN|apply qq|apply qs|refine qK (by kernel_rfl) ?_|apply qr)
 all_goals try first|apply qz1|apply qz2|apply qz3|apply qz4|apply qz5|apply qz6|apply qz7|apply qz8|apply qz9|apply qz0
 all_goals try simp only [zZ,zR,yE,z6,qn1,zY,qn2,zX,ETy.dflt,qn3,qn4,Int.reduceToNat,Int.reduceAdd,Int.reduceSub,Int.reduceNeg,Nat.reduceAdd,zD,zTg] at *
 all_goals try (refine yJ.intro ?_;omega)
 ·exact yJ.intro ⟨Nat.zero_le _,rfl⟩
 ·rename_i h1 h2;exact yJ.intro ⟨by omega,by rw [hx.2,zBM 0 h1,zRD,if_neg (by rw [h2];simp)]⟩
 ·rename_i h1 h2;rw [hx.2,zBM 0 h1,zRD,if_pos (by rw [h2];rfl)]
 ·rw [hx.2,zE3 (by assumption)];rfl
def zZi:List AV->Option Res
 | [.s (.sl (.int .i64) l),.s (.clo f [⟨.sl (.int .i64),m⟩])]=>match Nat.beq f 144 with
   | true=>some (none,none,.s (.int .i64 (zRD (fun v=> !zDw v m) l 0)))
   | false=>none
 | _=>none
theorem z3a:qM Tryz.prog 171 zZi:=⟨fun args r h=>by
 unfold zZi at h;split at h
 case h_2=>cases h
 split at h
 case h_2=>cases h
 rename_i he;cases h;rw [zH he]
 exact qL (yM (fn:=[(144,zNJ)]) (fr:=[]) ⟨zRZ,trivial⟩ trivial) Tryz.func171 (by kernel_rfl) fun _ _=>z3r _ _,_,Tryz.func171,by kernel_rfl,by kernel_rfl⟩
def z8F:List AV->St->(AV->St->Prop)->Prop:=zQX ⟨tyL,[(144,zNJ),(171,zZi)],[]⟩ Tryz.f143
theorem z6E : zJU Tryz.prog 143 z8F ∧ ∃ fn, Tryz.prog.funcs[143]? = some fn ∧ (fn.name == "runtime.NumGoroutine") = false ∧ fn.body.isNone = false :=
 ⟨zMl (yM (fn:=[(144,zNJ),(171,zZi)]) (fr:=[]) ⟨zRZ,z3a,trivial⟩ trivial) Tryz.func143 rfl (by kernel_rfl),_,Tryz.func143,by kernel_rfl,by kernel_rfl⟩
def zIT (p:Int->Bool) (xs:List Int):Spec (Nat×Nat×List Int) where
 inv x:=x.2.1<x.1/\x.1<=xs.length/\x.2.2.length=xs.length/\x.2.2.take x.2.1=(xs.take x.1).filter (fun v=> !p v)/\x.2.2.drop x.1=xs.drop x.1
 live x:=[(5,.s (.int .i64 x.2.1)),(6,.s (.int .i64 x.1))]
 keep:=[0,1]
 heap x:=[(3,.row y7 3 x.2.2)]
 keepH:=[0,4,5]
 mu x:=xs.length - x.1
theorem zWv (o:Option yI.T) (a:Int) (hg: ∀ x,o=some x->Good x):(zB7 o a).length<=40000:=by
 cases o with
 | none=>exact Nat.zero_le _
 | some x =>
   have:=(zG8 (hg x rfl) a).1;show (zDE x a).length<=40000;unfold zDE;rw [zO,zUi _ _ _ (zI _)];split
   ·simp only [List.length_singleton];omega
   ·simp only [List.length_nil];omega
theorem zX4 (p:Int->Bool): ∀ (l:List Int) (i:Nat),(zRD p l i= -1/\l.filter (fun v=> !p v)=l)\/(∃ k:Nat,zRD p l i=((i+k:Nat):Int)/\k<l.length/\(l.take k).filter (fun v=> !p v)=l.take k/\p (l.getD k 0)=true)
 | [],i=> .inl ⟨rfl,rfl⟩
 | a ::r,i=>by
   unfold zRD;cases h:p a with
   | true=>exact .inr ⟨0,by simp,by simp,rfl,by simpa using h⟩
   | false =>
     rw [if_neg (by simp)];rcases zX4 p r (i+1) with ⟨h1,h2⟩|⟨k,h1,h2,h3,h4⟩
     ·exact .inl ⟨h1,by rw [List.filter_cons_of_pos (by simp [h]),h2]⟩
     ·exact .inr ⟨k+1,by rw [h1];congr 1;omega,by simp;omega,by rw [List.take_succ_cons,List.filter_cons_of_pos (by simp [h]),h3],by simpa using h4⟩
theorem z13 {o:Option yI.T} {a b:Int} (h:a≠b):z7Z o a b=zBX ((zB7 o a).filter fun v=>zDw v (zB7 o b)):=by
 cases o with
 | none=>show []=zBX [];exact (List.length_eq_zero_iff.1 (zCw [])).symm
 | some x=>show zGV x a b=_;unfold zGV;rw [if_neg h];rfl
theorem z0n {p:Int->Bool} {xs:List Int} {x:Nat×Nat×List Int} (h:(zIT p xs).inv x) (hlt:x.1<xs.length) (hp:p (x.2.2.getD x.1 0)=false):(zIT p xs).inv (x.1+1,x.2.1+1,x.2.2.set x.2.1 (x.2.2.getD x.1 0)):=by
 obtain ⟨h1,h2,h3,h4,h5⟩:=h
 have e:x.2.2.getD x.1 0=xs.getD x.1 0:=by
  have:=congrArg (fun l=>l.getD 0 0) h5;simpa [zQ] using this
 refine ⟨by show x.2.1+1<x.1+1;omega,by show x.1+1<=_;omega,by show (x.2.2.set _ _).length=_;rw [List.length_set];exact h3,?_,?_⟩
 ·show (x.2.2.set x.2.1 (x.2.2.getD x.1 0)).take (x.2.1+1)=(xs.take (x.1+1)).filter _;rw [yB (by rw [List.length_set];omega),List.take_set_of_le (zI _),h4,List.getElem_set_self,yB hlt,List.filter_append];rw [e] at hp ⊢;rw [zQ,zG hlt] at hp ⊢;have hp:p xs[x.1]=false:=hp;rw [List.filter_cons_of_pos (by rw [hp];rfl)];rfl
 ·show (x.2.2.set x.2.1 _).drop (x.1+1)=xs.drop (x.1+1);rw [List.drop_set_of_lt (by omega),<- List.drop_drop,h5,List.drop_drop]
theorem zZ3 {p:Int->Bool} {xs:List Int} {x:Nat×Nat×List Int} (h:(zIT p xs).inv x) (hlt:x.1<xs.length) (hp:p (x.2.2.getD x.1 0)=true):(zIT p xs).inv (x.1+1,x.2.1,x.2.2):=by
 obtain ⟨h1,h2,h3,h4,h5⟩:=h
 have e:x.2.2.getD x.1 0=xs.getD x.1 0:=by
  have:=congrArg (fun l=>l.getD 0 0) h5;simpa [zQ] using this
 refine ⟨by show x.2.1<x.1+1;omega,by show x.1+1<=_;omega,h3,?_,?_⟩
 ·show x.2.2.take x.2.1=(xs.take (x.1+1)).filter _;rw [h4,yB hlt,List.filter_append];rw [e,zQ,zG hlt] at hp;have hp:p xs[x.1]=true:=hp;rw [List.filter_cons_of_neg (by rw [hp];simp)];simp
 ·show x.2.2.drop (x.1+1)=xs.drop (x.1+1);rw [<- List.drop_drop,h5,List.drop_drop]
theorem zTa (xs m:List Int):xs.filter (fun v=> !!zDw v m)=xs.filter fun v=>zDw v m:=by simp
theorem z5v (o:Option yI.T) (a b:Int) (hg: ∀ x,o=some x->Good x):zAG ⟨tyL,[],[(142,.res zXX),(143,.run z8F),(75,.run zNQ)]⟩ Tryz.f110 [(ETy.pt yI).av o,y7.av a,y7.av b] (fun r=>r= .s (.sl y7 (z7Z o a b))):=by
 have hlt:=zX4 (fun v=> !zDw v (zB7 o b)) (zB7 o a) 0;have hlen:=zWv o a hg
 repeat' (conv=>whnf
          first|done|refine qN (by first|rfl|omega|(simp only [yO] at *;omega)) ?_|apply qH|refine qG fun _=> ?_|apply qB|apply qa|apply qo|refine qe (fun _=> ?_) (fun _=> ?_)|refine qn (fun _=> ?_) (fun _=> ?_)|refine qd (fun _=> ?_) (fun _=> ?_)|apply qt|refine qi (fun _=> ?_) (fun _=> ?_)|(refine (fun (X:Array Value)=> ?_))|(refine qS 5 rfl ?_;refine Or.inr (zB (Nat×Nat×List Int) (zB (zIT (fun v=> !zDw v (zB7 o b)) (zB7 o a)) (zA (zB (((zRD (fun v=> !zDw v (zB7 o b)) (zB7 o a) 0).toNat+1,(zRD (fun v=> !zDw v (zB7 o b)) (zB7 o a) 0).toNat,zB7 o a)) (zA (yJ.out ?_) (zA ?_ (zA ?_ rfl)))) (fun x hx=> ?_)))))|((with_reducible show (∃ y,And (Spec.inv (zIT _ _) y) _));refine zB ((x.1+1,if zDw (x.2.2.getD x.1 0) (zB7 o b)=true then x.2.1+1 else x.2.1,if zDw (x.2.2.getD x.1 0) (zB7 o b)=true then x.2.2.set x.2.1 (x.2.2.getD x.1 0) else x.2.2)) (zA (yJ.out ?_) (zA (zA ?_ (zA ?_ rfl)) (yJ.out ?_))))|refine zA rfl ?_|apply qE|apply qO|exact zN|apply qq|apply qs|refine qK (by kernel_rfl) ?_|apply qr)
 all_goals try first|apply qz1|apply qz2|apply qz3|apply qz4|apply qz5|apply qz6|apply qz7|apply qz8|apply qz9|apply qz0
 all_goals try simp only [zZ,zR,yE,z6,qn1,zY,qn2,zX,ETy.dflt,qn3,qn4,Int.reduceToNat,Int.reduceAdd,Int.reduceSub,Int.reduceNeg,Nat.reduceAdd,zD,zIT] at *
 ·rename_i h;cases o with
  | none=>rfl
  | some x=>show []=zGV x a b;unfold zGV;rw [if_pos h]
 ·have hne:a≠b:=by assumption
  have hi:zRD (fun v=> !zDw v (zB7 o b)) (zB7 o a) 0= -1:=by assumption
  rcases hlt with ⟨_,hf⟩|⟨k,hk,_⟩
  ·rw [z13 hne,<- zTa (zB7 o a) (zB7 o b),hf];simp only [List.take_zero,List.nil_append,List.drop_zero,List.drop_length,List.append_nil];exact List.take_of_length_le (Nat.le_of_eq (zCw _))
  ·rw [hk] at hi;omega
 all_goals
  have hne:a≠b:=by assumption
  have hi: ¬ zRD (fun v=> !zDw v (zB7 o b)) (zB7 o a) 0= -1:=by assumption
  obtain ⟨k,hk,hk2,hk3,hk4⟩:=hlt.resolve_left (fun e=>hi e.1)
 ·rw [hk];refine yJ.intro ?_;unfold yO;omega
 ·rw [hk];refine yJ.intro ⟨by show ((k:Nat):Int).toNat<((k:Nat):Int).toNat+1;omega,by show ((k:Nat):Int).toNat+1<=_;omega,zN,?_,zN⟩;rw [Int.toNat_natCast,yB hk2,List.filter_append,hk3];rw [zQ,zG hk2] at hk4;have hk4:(!zDw (zB7 o a)[k] (zB7 o b))=true:=hk4;rw [List.filter_cons_of_neg (by rw [hk4];simp)];simp
 ·rw [hk];rfl
 ·rw [hk];rfl
 ·refine yJ.intro ?_;omega
 ·refine yJ.intro ?_;unfold yO;omega
 ·rename_i hq;rw [if_pos hq,if_pos hq];exact yJ.intro (z0n hx (by omega) (by rw [hq];rfl))
 ·rename_i hq;rw [if_pos hq];rfl
 ·rename_i hq;rw [if_pos hq]
 ·refine yJ.intro ?_;omega
 ·rename_i hq;rw [if_neg (by rw [hq];simp),if_neg (by rw [hq];simp)];exact yJ.intro (zZ3 hx (by omega) (by rw [hq];rfl))
 ·rename_i hq;rw [if_neg (by rw [hq];simp)]
 ·rename_i hq;rw [if_neg (by rw [hq];simp)]
 ·refine yJ.intro ?_;omega
 ·refine yJ.intro ?_;omega
 ·refine yJ.intro ?_;omega
 ·obtain ⟨h1,h2,h3,h4,h5⟩:=hx;have he:x.1=(zB7 o a).length:=by omega
  rw [he,List.take_length] at h4;rw [z13 hne,<- zTa (zB7 o a) (zB7 o b),<- h4];have hl:(x.2.2.take x.2.1).length=x.2.1:=by rw [j0];omega
  simp only [List.drop_zero,List.take_zero,List.nil_append];have e2: ∀ z:List Int,List.take x.2.1 (x.2.2.take x.2.1++z)=x.2.2.take x.2.1:=fun z=>by rw [List.take_append_of_le_length (Nat.le_of_eq hl.symm),List.take_of_length_le (Nat.le_of_eq hl)]
  rw [e2,List.take_append_of_le_length (by rw [zCw];omega),List.take_of_length_le (by rw [zCw];omega)]
theorem z2I:qM Tryz.prog 110 z5q:=⟨zDM fun o a b r h=>by
 cases h
 exact qL (yM (fn:=[]) (fr:=[(142,.res zXX),(143,.run z8F),(75,.run zNQ)]) trivial ⟨z0x,z6E,zQe,trivial⟩) Tryz.func110 (by kernel_rfl) fun _ h=>z5v o a b h,_,Tryz.func110,by kernel_rfl,by kernel_rfl⟩
end S1
open Go Go.Vm Go.Proofs
namespace S1
theorem z37 (a b:Int):zAG ⟨tyL,[(55,zMJ),(109,zGH),(46,zNB),(110,z5q),(103,zAe),(111,zNY)],[]⟩ Tryz.f69 [(ETy.pt yI).av none,y7.av a,y7.av b] (fun r=>r= .s (.int .i64 1)):=by
 repeat' (conv=>whnf
          first|done|refine qN (by first|rfl|omega|(simp only [yO] at *;omega)) ?_|apply qH|refine qG fun _=> ?_|apply qB|apply qa|apply qo|refine qe (fun _=> ?_) (fun _=> ?_)|refine qn (fun _=> ?_) (fun _=> ?_)|refine qd (fun _=> ?_) (fun _=> ?_)|apply qt|refine qi (fun _=> ?_) (fun _=> ?_)|refine zA rfl ?_|apply qE|apply qO|exact zN|apply qq|apply qs|refine qK (by kernel_rfl) ?_|apply qr)
 all_goals try first|apply qz1|apply qz2|apply qz3|apply qz4|apply qz5|apply qz6|apply qz7|apply qz8|apply qz9|apply qz0
 all_goals try simp only [zZ,zR,yE,z6,qn1,zY,qn2,zX,ETy.dflt,qn3,qn4,Int.reduceToNat,Int.reduceAdd,Int.reduceSub,Int.reduceNeg,Nat.reduceAdd,zD] at *
def z5N (o:Option yI.T) (a b:Int):Int:=onO o 1 fun x=>zD2 x a b
def z4E:List AV->Option Res:=zOb (.pt yI) y7 y7 (fun o a b=>some (none,some (∀ x,o=some x->Good x),.s (.int .i64 (z5N o a b))))
theorem zVj:qM Tryz.prog 69 z4E:=⟨zDM fun o a b r h=>by
 cases h;cases o with
 | none=>exact qL (yM (fn:=[(55,zMJ),(109,zGH),(46,zNB),(110,z5q),(103,zAe),(111,zNY)]) (fr:=[]) ⟨zMI,zK5,zQm,z2I,zC1,zRw,trivial⟩ trivial) Tryz.func69 (by kernel_rfl) fun _ _=>z37 a b
 | some x=>exact qL (yM (fn:=[(55,zMJ),(109,zGH),(46,zNB),(110,z5q),(103,zAe),(111,zNY)]) (fr:=[]) ⟨zMI,zK5,zQm,z2I,zC1,zRw,trivial⟩ trivial) Tryz.func69 (by kernel_rfl) fun _ h=>z6N x a b (h x rfl),_,Tryz.func69,by kernel_rfl,by kernel_rfl⟩
theorem z6f (o:Option yI.T) (a b:Int) (hg: ∀ x,o=some x->Good x):zAG ⟨tyL,[(69,z4E)],[]⟩ Tryz.f27 [(ETy.pt yI).av o,y7.av a,y7.av b] (fun r=>r= .s (.bool (z5N o a b==0))):=by
 repeat' (conv=>whnf
          first|done|refine qN (by first|rfl|omega|(simp only [yO] at *;omega)) ?_|apply qH|refine qG fun _=> ?_|apply qB|apply qa|apply qo|refine qe (fun _=> ?_) (fun _=> ?_)|refine qn (fun _=> ?_) (fun _=> ?_)|refine qd (fun _=> ?_) (fun _=> ?_)|apply qt|refine qi (fun _=> ?_) (fun _=> ?_)|refine zA rfl ?_|apply qE|apply qO|exact zN|apply qq|apply qs|refine qK (by kernel_rfl) ?_|apply qr)
 all_goals try first|apply qz1|apply qz2|apply qz3|apply qz4|apply qz5|apply qz6|apply qz7|apply qz8|apply qz9|apply qz0
 all_goals try simp only [zZ,zR,yE,z6,qn1,zY,qn2,zX,ETy.dflt,qn3,qn4,Int.reduceToNat,Int.reduceAdd,Int.reduceSub,Int.reduceNeg,Nat.reduceAdd,zD] at *
 all_goals first|exact yJ.intro hg|skip
def z6A:List AV->Option Res:=zOb (.pt yI) y7 y7 (fun o a b=>some (none,some (∀ x,o=some x->Good x),.s (.bool (z5N o a b==0))))
theorem z11:qM Tryz.prog 27 z6A:=⟨zDM fun o a b r h=>by cases h;exact qL (yM (fn:=[(69,z4E)]) (fr:=[]) ⟨zVj,trivial⟩ trivial) Tryz.func27 (by kernel_rfl) fun _ h=>z6f o a b h,_,Tryz.func27,by kernel_rfl,by kernel_rfl⟩
end S1
open Go Go.Vm Go.Proofs
namespace S1
theorem zC0 {x:yI.T} (g:Good x) (a:Int):zAO x a a=false:=by
 have key: ¬ 0<=qJ x (a,a):=fun h=>by
  unfold qJ at h;cases e:jS .arr2 x.2.1 (a,a) with
  | none=>rw [e] at h;exact absurd h (by decide)
  | some c =>
    obtain ⟨h1,h2⟩:=g.map _ _ e;exact g.ends c h1 (by rw [h2])
 unfold zAO;rw [decide_eq_false key];rfl
theorem z3W {x:yI.T} {a b:Int} (h:zAO x a b=false):zD2 x a b=1:=by unfold zD2;rw [h];rfl
end S1
open Go Go.Vm Go.Proofs
namespace S1
theorem zRJ (v:Int): ∀ (l:List Int) (i:Nat),zOm v l i>=0↔v∈l
 | [],i=>⟨fun h=>by have h:(-1:Int)>=0:=h;omega,fun h=>(by cases h)⟩
 | a ::r,i=>by
   unfold zOm;split
   ·rename_i e;subst e;exact ⟨fun _=>yA ..,fun _=>by omega⟩
   ·rename_i e;rw [zRJ v r,zT];exact ⟨.inr,fun h=>h.resolve_left e⟩
theorem zRk {v:Int} {l:List Int} :zDw v l=true↔v∈l:=by
 unfold zDw;rw [zP,zRJ]
theorem zKo {x:yI.T} (g:Full x) {a b v:Int} :v∈zGV x a b↔a≠b/\zAO x a v=true/\zAO x b v=true:=by
 unfold zGV;split
 ·rename_i h;exact ⟨fun h=>(by cases h),fun h'=>absurd h h'.1⟩
 ·rename_i h;rw [(zG3 _).mem_iff,List.mem_filter,zRk,g.link_iff,g.link_iff];exact ⟨fun k=>⟨h,k⟩,fun k=>k.2⟩
theorem zSE {f l:List Int} :zSz f l=true↔∀ v∈l,v∈f:=by
 induction l with
 | nil=>exact ⟨fun _ v h=>(by cases h),fun _=>rfl⟩
 | cons a r ih =>
   unfold zSz;rw [zC,zRk,ih]
   exact ⟨fun ⟨h1,h2⟩ v hv=>by
    rcases zT.1 hv with e|hv
    ·rw [e];exact h1
    ·exact h2 v hv,fun h=>⟨h a (yA ..),fun v hv=>h v (zS _ hv)⟩⟩
theorem zZH {x:yI.T} {a b:Int} (h:zD2 x a b=0): ∀ v∈zGV x a b,v∈zDb x a b:=by
 unfold zD2 at h
 repeat' split at h
 all_goals first
  | (exact absurd h (by decide))
  | skip
 rename_i hw _;exact zSE.1 (by cases e:zSz (zDb x a b) (zGV x a b) with|true=>rfl|false=>exact absurd e hw)
end S1
