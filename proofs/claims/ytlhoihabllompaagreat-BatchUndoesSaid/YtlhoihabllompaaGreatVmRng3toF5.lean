/- A part of the proofs of the laws. -/
import Derived.Test.YtlhoihabllompaaGreatVmRngMtoVmSeq
import Derived.Test.YtlhoihabllompaaGreatT22toF5a
import Derived.Test.YtlhoihabllompaaGreatT12toVmRng
import Derived.Test.YtlhoihabllompaaGreatT0toVmInl
set_option linter.unusedSimpArgs false
set_option linter.unusedVariables false
set_option maxHeartbeats 8000000
set_option maxRecDepth 100000
/- Functions with ranges over functions at their top that hand rows over. -/
namespace Go.Vm
open Go.RowKit
def zRI (T:Tab) (SQ:zCt) (fn:Func) (args:List AV) (R:AV->List Ob->Prop):Prop :=
 match fn.body with
 | some c=>(St.init args).forceAll fun s=>qC T SQ c s (zS8 T fn R)
 | none=>False
section
variable {P:Program} {T:Tab} {SQ:zCt} {B B0:Base} {w w':World} {σ τ:Sig} {β:yQ} {st:St} {tmps:Array Value} {N:Nat} {a:Act}
theorem zOt {fn:Func} {st':St} {R:Ending->World->Prop}
 (hend: ∀ (B1:Base) (σ1:Sig) (β1:yQ) (w':World),B1.w=w->zS9 ⟨w,σ,[]⟩ B1.sg->GG B1 σ1 β1 st' tmps w'->∃ v,(results fn tmps).run P w'= .ok v w'/\R (.returned v) w') (hag:Ag σ w) :
 ∀ (Ds:List Nat) (B1:Base) (σ1:Sig) (β1:yQ) (w':World),Ds.Nodup->(∀ D∈Ds,B1.sg D=some (.deferred (some []))/\w.heap.size<=D)->B1.w=w->zS9 ⟨w,σ,[]⟩ B1.sg->GG B1 σ1 β1 st' tmps w'->
   LeavesInM (FR none) 0 P fn tmps R (Ds.map mark) .returning w':=by
 intro Ds
 induction Ds with
 | cons D r ih =>
   intro B1 σ1 β1 w' hn hD hw hgr hg;obtain ⟨hn1,hn2⟩:=List.nodup_cons.1 hn;obtain ⟨d1,d2⟩:=hD D (yA ..);rw [Base.relock B1 d1] at hg;obtain ⟨_,hl2,_⟩:=hg.locked rfl;have zDN: ∀ b,b≠D->(B1.sg.del D) b=B1.sg b:=fun b hb=>by unfold Sig.del;rw [if_neg hb]
   obtain ⟨hg2,_⟩:=hg.unlock rfl (by show B1.w.heap.size<=D;rw [hw];exact d2) (by show (B1.sg.del D) D=none;unfold Sig.del;rw [if_pos rfl]) (.deferred none);refine ⟨by simp,.inl ⟨D,_,rfl,run_takeDeferred hl2,ih {B1 with sg:=B1.sg.del D} _ _ _ hn2 (fun D' hD'=> ?_) hw ⟨fun b o e=> ?_,fun b hb=> ?_⟩ hg2⟩⟩
   ·obtain ⟨k1,k2⟩:=hD D' (zS _ hD');exact ⟨by show (B1.sg.del D) D'=_;rw [zDN _ (fun e=>hn1 (e▸hD'))];exact k1,k2⟩
   ·have hb:b≠D:=fun hb=>by subst hb;have:=hag.lt e;omega
    show ∃ o',(B1.sg.del D) b=some o'/\_;rw [zDN b hb];exact hgr.1 b o e
   ·have hb:b<w.heap.size:=hb;show (B1.sg.del D) b=_;rw [zDN b (by omega)];exact hgr.2 b hb
 | nil =>
   intro B1 σ1 β1 w' _ _ hw hgr hg;exact hend B1 σ1 β1 w' hw hgr hg
theorem zT2 (R:jL P T) (hSQ:zDR P SQ) {f:FuncId} {fn:Func} {c:Code} (hf:P.funcs[f]? =some fn) (hb:fn.body=some c) (hok:zAf fn.ntmps c=true)
 {args:List AV} (hl:args.length<=fn.ntmps) {q:Option Prop} {u:AV} {us:List Ob} (h:zBe args->Opt q->zRI T SQ fn args (fun v obs=>v=u/\obs=us)):zCj P f args (none,q,u,us):=by
 intro σ vals w hag hv;refine ⟨trivial,fun hq=> ?_⟩;have hga:=zIw (N:=fn.ntmps) hag hv hl;have hk:=h (zCL hv) hq;simp only [zRI,hb,St.forceAll_eq] at hk;refine (callsIn_of_wp_marks (F:=Fence.wide) (n:=0) hf hb trivial ?_).calls (fun _ _ hd=>by cases hd);rw [<- FR.none];refine zO1 (B0:=⟨w,σ,[]⟩) R hSQ c hok ⟨rfl,⟨Sig.le.refl _,fun _ _=>rfl⟩,[],rfl,List.nodup_nil,fun D hD=>by cases hD⟩ hga hk fun e B1 st' a' w' hm hp h'=> ?_
 have fin:(match fn.results.toList.all (zFk T st')&&(nodupB (zAr (zAP T fn st').parts)&&zMK st'.hp (zAr (zAP T fn st').parts)) with
  | true=>(zAP T fn st').mapAS (zSQ (zAr (zAP T fn st').parts))=u/\zJc st'.hp (zAr (zAP T fn st').parts)=us
  | false=>False)->LeavesInM (FR none) 0 P fn a'.tmps (fun e w'=> ∃ v σ' β',e= .returned v/\σ.le σ'/\Ag σ' w'/\
  (∀ b,b<w.heap.size->σ' b=σ b)/\y5 σ' β' u v/\zBp σ' w.heap.size w' us β'/\Below w.heap.size w w') a'.defers .returning w':=by
  intro hu;split at hu
  case h_2=>exact hu.elim
  rename_i hallok;rw [zC,zC] at hallok;obtain ⟨hallok,hnd,hrows⟩:=hallok;obtain ⟨σ1,β1,hg⟩:=h'.gg;obtain ⟨Ds,e1,e2,e3⟩:=hm.ds;rw [h'.defers,e1];refine zOt (w:=w) (σ:=σ) (st':=st') (fun B1 σ1 β1 w' hw hgr hg=> ?_) hag Ds B1 σ1 β1 w' e2 e3 hm.w hm.grew hg;have hsl:σ.le σ1:=Sig.le.trans hgr.1 hg.grew.1;have hsb: ∀ b,b<w.heap.size->σ1 b=σ b:=fun b hb=>(hg.grew.2 b (by rw [hw];exact hb)).trans (hgr.2 b hb)
  have hbel:Below w.heap.size w w':=by have:=hg.bel;rw [hw] at this;exact this
  obtain ⟨vs,hrun,hall⟩:=zB3 (P:=P) (w:=w') (fn:=fn) (tmps:=a'.tmps) (Q:=fun r v=>y5 σ1 β1 (zEP T st' r) v) (fun r hr=>by
   have hro:=zK.1 hallok r hr;cases r with
   | tmp t=>exact ⟨_,rfl,hg.env t⟩
   | cell a t =>
     simp only [zFk] at hro;simp only [zEP];have hx:=hg.env a;split at hro
     ·rename_i id i k hea;rw [hea] at hx;split at hro
      ·rename_i v hv;obtain ⟨p,_,hptr,_⟩:=hx;obtain ⟨_,hrun⟩:=zB7 (w:=w') R.ty R.one hg.mem (t:=t) (hg.env a) (p:=none) (q:=none) (v:=v) (by rw [hea];exact hv);obtain ⟨val,h1,h2⟩:=hrun trivial;refine ⟨val,?_,h2⟩;rw [hptr] at h1 ⊢;rw [zBG] at h1;simp only [asAddr,Sem.run_bind,Sem.run_pure,Result.andThen_ok];exact h1
      ·cases hro
     ·cases hro)
  refine ⟨_,hrun,_,σ1,(zAr (zAP T fn st').parts).map fun i=>(β1[i]?).getD none,rfl,hsl,hg.mem.ag,hsb,?_,?_,hbel⟩
  ·exact ((zGj hall).mapAS fun a v ha=>y4.ren (ids:=zAr (zAP T fn st').parts) ha) |> fun h=>by rw [hu.1] at h;exact h
  ·have:=zFO (w:=w') hg.mem.ob (fun id ob p hi hp=>by have:=hg.sep id ob p hi hp;rw [hw] at this;exact this) _ hnd hrows;rw [hu.2] at this;exact this
 cases e with
 | normal=>simp only [zS8,AV.force_eq] at hp;exact fin hp
 | ret=>simp only [zS8,AV.force_eq] at hp;exact fin hp
 | _=>exact hp.elim
end
end Go.Vm
open Go Go.Vm Go.Proofs
namespace S1
theorem zZP (x:yI.T) (v:Int) (g:Good x):zRI ⟨tyL,[(90,zFG),(121,zMY),(122,zKk),(130,zF9),(94,zCN)],[]⟩ z7Y Tryz.f142 [(ETy.pt yI).av (some x),y7.av v] (fun r obs=>r= .s (.own 0 0 (zDC x v).length)/\obs=[.row y7 3 (zDC x v)]):=by
 obtain ⟨hl,ha⟩:=zGT g v;have hd:=zXL ha;have hL:=zTQ ha (yT (some x) v).length;have ho:=zT7 x (yT (some x) v);have ho2:=ho _ (zI _)
 repeat' (conv=>whnf
          first|done|refine qN (by first|rfl|omega|(simp only [yP] at *;omega)) ?_|apply qH|refine qG fun _=> ?_|apply qB|apply qa|apply qo|refine qe (fun _=> ?_) (fun _=> ?_)|refine qn (fun _=> ?_) (fun _=> ?_)|refine qd (fun _=> ?_) (fun _=> ?_)|apply qt|refine qi (fun _=> ?_) (fun _=> ?_)|refine zB (yT (some x) v) (zA (yK.out ?_) (zB (zPH x (yT (some x) v)) ?_))|(refine zA (fun X=> ?_) (fun X=> ?_))|(refine zA (zA ?_ (zA ?_ rfl)) (fun k hk=> ?_))|(refine zA ?_ (zA ?_ rfl))|refine zA rfl ?_|apply qE|apply qO|exact zN|apply qq|apply qs|refine qK (by kernel_rfl) ?_|apply qr)
 all_goals try first|apply qz1|apply qz2|apply qz3|apply qz4|apply qz5|apply qz6|apply qz7|apply qz8|apply qz9|apply qz0
 all_goals try simp only [zZ,zR,yD,z6,qn1,zY,qn2,zX,ETy.dflt,qn3,qn4,Int.reduceToNat,Int.reduceAdd,Int.reduceSub,Int.reduceNeg,Nat.reduceAdd,zD] at *
 ·exact yK.intro ⟨rfl,some x,v,rfl,fun y e=>by cases e;exact g,rfl⟩
 ·exact yK.intro (Int.le_trans (hd k) (by decide))
 ·exact yK.intro (Int.le_trans (zLj g _) (by decide))
 ·have:=ho k (Nat.le_of_lt hk);refine yK.intro ?_;omega
 ·rw [zQz _ _ _ hk,zO];exact jM.intro rfl
 ·exact zQz _ _ _ hk
 ·exact yK.intro ⟨g,hL⟩
 ·exact yK.intro (Int.le_trans hL (by decide))
 ·exact yK.intro (Int.le_trans (zMW g _) (by decide))
 ·refine yK.intro ?_;omega
 ·rename_i h1 h2;unfold zDC;rw [if_pos ⟨h1,h2⟩,zO];rfl
 ·rename_i h1 h2;unfold zDC;rw [if_pos ⟨h1,h2⟩]
 ·rename_i h1 h2;unfold zDC;rw [if_neg (fun e=>h2 e.2),List.append_nil]
 ·rename_i h1 h2;unfold zDC;rw [if_neg (fun e=>h2 e.2),List.append_nil]
 ·rename_i h1;unfold zDC;rw [if_neg (fun e=>h1 e.1),List.append_nil]
 ·rename_i h1;unfold zDC;rw [if_neg (fun e=>h1 e.1),List.append_nil]
theorem zYA (v:Int):zRI ⟨tyL,[(90,zFG),(121,zMY),(122,zKk),(130,zF9),(94,zCN)],[]⟩ z7Y Tryz.f142 [(ETy.pt yI).av none,y7.av v] (fun r obs=>r= .s (.own 0 0 0)/\obs=[.row y7 3 []]):=by
 repeat' (conv=>whnf
          first|done|refine qN (by first|rfl|omega|(simp only [yP] at *;omega)) ?_|apply qH|refine qG fun _=> ?_|apply qB|apply qa|apply qo|refine qe (fun _=> ?_) (fun _=> ?_)|refine qn (fun _=> ?_) (fun _=> ?_)|refine qd (fun _=> ?_) (fun _=> ?_)|apply qt|refine qi (fun _=> ?_) (fun _=> ?_)|refine zB [] (zA (yK.out ?_) (zB z6q ?_))|(refine zA (fun X=> ?_) (fun X=> ?_))|(refine zA (zA ?_ (zA ?_ rfl)) (fun k hk=>absurd hk (Nat.not_lt_zero _)))|refine zA rfl ?_|apply qE|apply qO|exact zN|apply qq|apply qs|refine qK (by kernel_rfl) ?_|apply qr)
 all_goals try first|apply qz1|apply qz2|apply qz3|apply qz4|apply qz5|apply qz6|apply qz7|apply qz8|apply qz9|apply qz0
 all_goals try simp only [zZ,zR,yD,z6,qn1,zY,qn2,zX,ETy.dflt,qn3,qn4,Int.reduceToNat,Int.reduceAdd,Int.reduceSub,Int.reduceNeg,Nat.reduceAdd,zD] at *
 exact yK.intro ⟨rfl,none,v,rfl,fun y e=>(by cases e),rfl⟩
def zX9:List AV->Option zJf:=zCs (.pt yI) y7 (fun o v=>some (none,some (∀ x,o=some x->Good x),.s (.own 0 0 (zB9 o v).length),[.row y7 3 (zB9 o v)]))
theorem z0f:zDE Tryz.prog 142 zX9:=⟨zQj fun o v r h=>by
 cases h;cases o with
 | none=>exact zT2 (yN (fn:=[(90,zFG),(121,zMY),(122,zKk),(130,zF9),(94,zCN)]) (fr:=[]) ⟨zIy,zLL,zMQ,zHb,zES,trivial⟩ trivial) z7b Tryz.func142 rfl (by kernel_rfl) (zU rfl) fun _ _=>zYA v
 | some x=>exact zT2 (yN (fn:=[(90,zFG),(121,zMY),(122,zKk),(130,zF9),(94,zCN)]) (fr:=[]) ⟨zIy,zLL,zMQ,zHb,zES,trivial⟩ trivial) z7b Tryz.func142 rfl (by kernel_rfl) (zU rfl) fun _ h=>zZP x v (h x rfl),_,Tryz.func142,by kernel_rfl,by kernel_rfl⟩
end S1
open Go Go.Vm Go.Proofs
namespace S1
def z62 {ρ:Type} (e b c:ETy) (f:e.T->b.T->c.T->Option ρ):List AV->Option ρ :=
 zOh (.pt e) b c (fun o y z=>match o with|some x=>f x y z|none=>none)
theorem zY8 {P:Program} {e b c:ETy} {f:e.T->b.T->c.T->Option Res} {n:FuncId} (h: ∀ x y z r,f x y z=some r->zDL P n [(ETy.pt e).av (some x),b.av y,c.av z] r): ∀ args r,z62 e b c f args=some r->zDL P n args r :=
 zDV fun o y z r hr=>by cases o with|none=>cases hr|some x=>exact h x y z r hr
def zOr (v:Int):List Int->Nat->Int
 | [],_=> -1
 | a::r,i=>if v=a then (i:Int) else zOr v r (i+1)
def z2P (v:Int) (l:List Int):Spec Nat where
 inv x:=x<=l.length/\zOr v l 0=zOr v (l.drop x) x
 live x:=[(8,.s (.int .i64 x))]
 keep:=[0,1,7]
 heap _:=[]
 keepH:=[]
 mu x:=l.length - x
theorem zX0 {fn} (l:List Int) (v:Int):zAF ⟨tyL,fn,[]⟩ Tryz.f102 [(ETy.sl y7).av l,y7.av v] (fun r=>r= .s (.int .i64 (zOr v l 0))):=by
 repeat' (conv=>whnf
          first|done|refine qN (by first|rfl|omega|(simp only [yP] at *;omega)) ?_|apply qH|refine qG fun _=> ?_|apply qB|apply qa|apply qo|refine qe (fun _=> ?_) (fun _=> ?_)|refine qn (fun _=> ?_) (fun _=> ?_)|refine qd (fun _=> ?_) (fun _=> ?_)|apply qt|refine qi (fun _=> ?_) (fun _=> ?_)|(refine qT 2 rfl ?_;refine Or.inr (zB (Nat) (zB (z2P v l) (zA (zB (0) (zA (yK.out ?_) (zA ?_ (zA ?_ rfl)))) (fun x hx=> ?_)))))|((with_reducible show (∃ y,And (Spec.inv (z2P _ _) y) _));refine zB (x+1) (zA (yK.out ?_) (zA (zA ?_ (zA ?_ rfl)) (yK.out ?_))))|refine zA rfl ?_|apply qE|apply qO|exact zN|apply qq|apply qs|refine qK (by kernel_rfl) ?_|apply qr)
 all_goals try first|apply qz1|apply qz2|apply qz3|apply qz4|apply qz5|apply qz6|apply qz7|apply qz8|apply qz9|apply qz0
 all_goals try simp only [zZ,zR,yD,z6,qn1,zY,qn2,zX,ETy.dflt,qn3,qn4,Int.reduceToNat,Int.reduceAdd,Int.reduceSub,Int.reduceNeg,Nat.reduceAdd,zD,z2P] at *
 ·exact yK.intro ⟨Nat.zero_le _,rfl⟩
 ·rename_i h1 h2;rw [hx.2,zBU 0 h1,zOr,if_pos h2]
 ·rename_i h1 h2;exact yK.intro ⟨by omega,by rw [hx.2,zBU 0 h1,zOr,if_neg h2]⟩
 ·exact yK.intro (by omega)
 ·rw [hx.2,zE7 (by assumption)];rfl
def zFK:List AV->Option Res:=zCs (.sl y7) y7 (fun l v=>some (none,none,.s (.int .i64 (zOr v l 0))))
theorem zJE:qL Tryz.prog 102 zFK:=⟨jC fun l v r h=>by cases h;exact qM (yN (fn:=[]) (fr:=[]) trivial trivial) Tryz.func102 (by kernel_rfl) fun _ _=>zX0 l v,_,Tryz.func102,by kernel_rfl,by kernel_rfl⟩
def zDo (v:Int) (l:List Int):Bool:=decide (zOr v l 0>=0)
theorem zPM (l:List Int) (v:Int):zAF ⟨tyL,[(102,zFK)],[]⟩ Tryz.f103 [(ETy.sl y7).av l,y7.av v] (fun r=>r= .s (.bool (zDo v l))):=by
 repeat' (conv=>whnf
          first|done|refine qN (by first|rfl|omega|(simp only [yP] at *;omega)) ?_|apply qH|refine qG fun _=> ?_|apply qB|apply qa|apply qo|refine qe (fun _=> ?_) (fun _=> ?_)|refine qn (fun _=> ?_) (fun _=> ?_)|refine qd (fun _=> ?_) (fun _=> ?_)|apply qt|refine qi (fun _=> ?_) (fun _=> ?_)|refine zA rfl ?_|apply qE|apply qO|exact zN|apply qq|apply qs|refine qK (by kernel_rfl) ?_|apply qr)
 all_goals try first|apply qz1|apply qz2|apply qz3|apply qz4|apply qz5|apply qz6|apply qz7|apply qz8|apply qz9|apply qz0
 all_goals try simp only [zZ,zR,yD,z6,qn1,zY,qn2,zX,ETy.dflt,qn3,qn4,Int.reduceToNat,Int.reduceAdd,Int.reduceSub,Int.reduceNeg,Nat.reduceAdd,zD,zDo] at *
def zAh:List AV->Option Res:=zCs (.sl y7) y7 (fun l v=>some (none,none,.s (.bool (zDo v l))))
theorem zCS:qL Tryz.prog 103 zAh:=⟨jC fun l v r h=>by cases h;exact qM (yN (fn:=[(102,zFK)]) (fr:=[]) ⟨zJE,trivial⟩ trivial) Tryz.func103 (by kernel_rfl) fun _ _=>zPM l v,_,Tryz.func103,by kernel_rfl,by kernel_rfl⟩
def zDd (x:yI.T) (a b:Int):List Int:=(if qJ x (a,b)>=0 then [yR x (qJ x (a,b))] else [])++(if qJ x (b,a)>=0 then [yR x (qJ x (b,a))] else [])
theorem zXO {x:yI.T} (g:Good x) (e:Int×Int):qJ x e<=1000000000:=by
 unfold qJ;cases h:jS .arr2 x.2.1 e with
 | none=>decide
 | some c =>
   have:=yH.1 (g.map _ _ h).1;have:=g.fit.2.2.1;exact (show @LE.le Int _ c (1000000000:Int) by omega)
theorem zSe (x:yI.T) (a b:Int) (g:Good x):zAF ⟨tyL,[(78,zDk),(94,zCN)],[]⟩ Tryz.f109 [(ETy.pt yI).av (some x),y7.av a,y7.av b] (fun v=>v= .s (.sl y7 (zDd x a b))):=by
 have e0:(((List.replicate 2 ((0:Int),(0:Int))).set 0 (a,b)).set 1 (b,a)).getD 0 (0,0)=(a,b):=rfl;have e1:(((List.replicate 2 ((0:Int),(0:Int))).set 0 (a,b)).set 1 (b,a)).getD 1 (0,0)=(b,a):=rfl
 repeat' (conv=>whnf
          first|done|refine qN (by first|rfl|omega|(simp only [yP] at *;omega)) ?_|apply qH|refine qG fun _=> ?_|apply qB|apply qa|apply qo|refine qe (fun _=> ?_) (fun _=> ?_)|refine qn (fun _=> ?_) (fun _=> ?_)|refine qd (fun _=> ?_) (fun _=> ?_)|apply qt|refine qi (fun _=> ?_) (fun _=> ?_)|(refine qT 3 rfl ?_;refine Or.inl (zB (3) ?_))|refine zA rfl ?_|apply qE|apply qO|exact zN|apply qq|apply qs|refine qK (by kernel_rfl) ?_|apply qr)
 all_goals try first|apply qz1|apply qz2|apply qz3|apply qz4|apply qz5|apply qz6|apply qz7|apply qz8|apply qz9|apply qz0
 all_goals try simp only [zZ,zR,yD,z6,qn1,zY,qn2,zX,ETy.dflt,qn3,qn4,Int.reduceToNat,Int.reduceAdd,Int.reduceSub,Int.reduceNeg,Nat.reduceAdd,zD,e0,e1,zDd] at *
 all_goals first
  | exact yK.intro (zXO g _)
  | exact yK.intro (by decide)
  | (simp only [if_pos,if_neg, *,not_false_eq_true];rfl)
def zFi:List AV->Option Res:=z62 yI y7 y7 (fun x a b=>some (none,some (Good x),.s (.sl y7 (zDd x a b))))
theorem zKW:qL Tryz.prog 109 zFi:=⟨zY8 fun x a b r h=>by cases h;exact qM (yN (fn:=[(78,zDk),(94,zCN)]) (fr:=[]) ⟨zFe,zES,trivial⟩ trivial) Tryz.func109 (by kernel_rfl) fun _ h=>zSe x a b h,_,Tryz.func109,by kernel_rfl,by kernel_rfl⟩
end S1
open Go Go.Vm Go.Proofs
namespace S1
abbrev OS:=List Int×List Int
def ofC (x:yI.T) (k:Int) (j:Nat) (s:OS) (c:Nat):OS :=
 if 0<=zAG x (3*s.2.getD j 0+c)/\s.1.getD (zAG x (3*s.2.getD j 0+c) / 3).toNat 0<0 then
  (s.1.set (zAG x (3*s.2.getD j 0+c) / 3).toNat k,s.2++[zAG x (3*s.2.getD j 0+c) / 3]) else s
def ofJ (x:yI.T) (k:Int) (s:OS) (j:Nat):OS:=qA (ofC x k j) s 3
def bfs (x:yI.T) (k:Int):Nat->Nat->OS->OS
 | 0,_,s=>s
 | f+1,j,s=>if j<s.2.length then bfs x k f (j+1) (ofJ x k s j) else s
def ofI (x:yI.T) (s:List Int×Int) (i:Nat):List Int×Int :=
 if s.1.getD i 0>=0 then s else ((bfs x s.2 10000 0 (s.1.set i s.2,[(i:Int)])).1,s.2+1)
def ofL (x:yI.T) (i:Nat):List Int×Int:=qA (ofI x) (List.replicate x.1.2.length (-1),0) i
def ofR (x:yI.T):List Int:=(ofL x x.1.2.length).1
def unm:List Int->Nat
 | []=>0
 | a::r=>(if a<0 then 1 else 0)+unm r
theorem z1E: ∀ l:List Int,unm l<=l.length
 | []=>zI _
 | a::r=>by have:=z1E r;simp only [unm,z8];split<;>omega
theorem zQN {k:Int} (hk:0<=k): ∀ (l:List Int) (i:Nat),i<l.length->l.getD i 0<0->unm (l.set i k)+1=unm l
 | a::r,0,_,h=>by
   have h:a<0:=h;simp only [List.set_cons_zero,unm];rw [if_pos h,if_neg (by omega)];omega
 | a::r,i+1,hi,h=>by
   have:=zQN hk r i (by simpa using hi) (by simpa using h);simp only [List.set_cons_succ,unm];omega
structure OOk (n:Nat) (s:OS):Prop where
 len:s.1.length=n
 td: ∀ j,j<s.2.length->0<=s.2.getD j 0/\s.2.getD j 0<n
 cnt:s.2.length+unm s.1<=n
theorem z1Q {x:yI.T} (g:Good x) {d:Int} (h:0<=zAG x d):zAG x d<3*(x.1.2.length:Int):=(yH.1 (g.opp h).2.1).2
theorem z6z {x:yI.T} (g:Good x) {k:Int} (hk:0<=k) {j:Nat} {s:OS} (h:OOk x.1.2.length s) (c:Nat):OOk x.1.2.length (ofC x k j s c):=by
 unfold ofC;split
 ·rename_i hc;have hi:=z1Q g hc.1;refine ⟨by rw [List.length_set];exact h.len,fun j' hj=> ?_,?_⟩
  ·by_cases e:j'<s.2.length
   ·have:=h.td j' e
    have e2:(s.2++[zAG x (3*s.2.getD j 0+c) / 3]).getD j' 0=s.2.getD j' 0:=by
     rw [zQ,List.getElem?_append_left e,<- zQ]
    show 0<=(s.2++_).getD j' 0/\_;rw [e2];exact this
   ·have hj:j'<(s.2++[zAG x (3*s.2.getD j 0+c) / 3]).length:=hj;rw [zO,List.length_singleton] at hj;have e3:j'=s.2.length:=by omega
    subst e3
    have e2:(s.2++[zAG x (3*s.2.getD j 0+c) / 3]).getD s.2.length 0=zAG x (3*s.2.getD j 0+c) / 3:=by
     rw [zQ,List.getElem?_append_right (zI _)];simp
    show 0<=(s.2++_).getD s.2.length 0/\_;rw [e2];omega
  ·have:=zQN hk s.1 _ (by rw [h.len];omega) hc.2;have h3:=h.cnt;show (s.2++[_]).length+unm (s.1.set (zAG x (3*s.2.getD j 0+c) / 3).toNat k)<=x.1.2.length;rw [zO,List.length_singleton];omega
 ·exact h
theorem zPa {x:yI.T} (g:Good x) {k:Int} (hk:0<=k) {j:Nat} {s:OS} (h:OOk x.1.2.length s): ∀ c,OOk x.1.2.length (qA (ofC x k j) s c)
 | 0=>h
 | c+1=>z6z g hk (zPa g hk h c) c
theorem zUm {x:yI.T} (g:Good x) {k:Int} (hk:0<=k) {j:Nat} {s:OS} (h:OOk x.1.2.length s):OOk x.1.2.length (ofJ x k s j):=by
 unfold ofJ;exact zPa g hk h 3
theorem zXM {x:yI.T} (g:Good x) {k:Int} (hk:0<=k) {s:OS} (h:OOk x.1.2.length s): ∀ j,OOk x.1.2.length (qA (ofJ x k) s j)
 | 0=>h
 | j+1=>zUm g hk (zXM g hk h j)
theorem z1W {x:yI.T} (g:Good x) {k:Int} (hk:0<=k): ∀ (f j:Nat) {s:OS},OOk x.1.2.length s->OOk x.1.2.length (bfs x k f j s)
 | 0,_,_,h=>h
 | f+1,j,s,h=>by
   unfold bfs;split
   ·exact z1W g hk f (j+1) (zUm g hk h)
   ·exact h
theorem zLm {n i:Nat} {l:List Int} {k:Int} (hk:0<=k) (hl:l.length=n) (hi:i<n) (h: ¬ l.getD i 0>=0):OOk n (l.set i k,[(i:Int)]):=by
 refine ⟨by rw [List.length_set];exact hl,fun j hj=> ?_,?_⟩
 ·have hj:j<1:=hj;have:j=0:=by omega
  subst this;show (0:Int)<=i/\(i:Int)<n;omega
 ·have:=zQN hk l i (by omega) (by omega);have h2:=z1E l;show 1+unm (l.set i k)<=n;omega
theorem zQy {x:yI.T} (g:Good x): ∀ i,i<=x.1.2.length->(ofL x i).1.length=x.1.2.length/\0<=(ofL x i).2/\(ofL x i).2<=i
 | 0,_=>⟨List.length_replicate,Int.le_refl 0,Int.le_refl 0⟩
 | i +1,hi=>by
   obtain ⟨h1,h2,h3⟩:=zQy g i (by omega);show (ofI x (ofL x i) i).1.length=_/\0<=(ofI x (ofL x i) i).2/\(ofI x (ofL x i) i).2<=_;unfold ofI;split
   ·exact ⟨h1,h2,by omega⟩
   ·rename_i hn;exact ⟨(z1W g h2 10000 0 (zLm h2 h1 (by omega) hn)).len,by show 0<=(ofL x i).2+1;omega,by show (ofL x i).2+1<=_;omega⟩
theorem z7m {x:yI.T} {k:Int} {j c:Nat} {s:OS} (h1:zAG x (3*s.2.getD j 0+c)>=0) (h2:s.1.getD ((zAG x (3*s.2.getD j 0+c)).tdiv 3).toNat 0<0) :
 ofC x k j s c=(s.1.set ((zAG x (3*s.2.getD j 0+c)).tdiv 3).toNat k,s.2++[(zAG x (3*s.2.getD j 0+c)).tdiv 3]):=by
 rw [td3 h1] at *;unfold ofC;rw [if_pos ⟨h1,h2⟩]
theorem z5d {x:yI.T} {k:Int} {j c:Nat} {s:OS} (h1:zAG x (3*s.2.getD j 0+c)>=0) (h2: ¬ s.1.getD ((zAG x (3*s.2.getD j 0+c)).tdiv 3).toNat 0<0):ofC x k j s c=s:=by
 rw [td3 h1] at *;unfold ofC;rw [if_neg (fun e=>h2 e.2)]
theorem z6c {x:yI.T} {k:Int} {j c:Nat} {s:OS} (h1: ¬ zAG x (3*s.2.getD j 0+c)>=0):ofC x k j s c=s:=by
 unfold ofC;rw [if_neg (fun e=>h1 e.1)]
theorem z4A {x:yI.T} {k:Int} {j c:Nat} {s:OS} :s.2.length<=(ofC x k j s c).2.length:=by
 unfold ofC;split
 ·show _<=(s.2++[_]).length;rw [zO];omega
 ·exact zI _
theorem zR0 {x:yI.T} {k:Int} {j:Nat} {s:OS} : ∀ c,s.2.length<=(qA (ofC x k j) s c).2.length
 | 0=>zI _
 | c+1=>Nat.le_trans (zR0 c) z4A
theorem zWI (x:yI.T) (k:Int) (j:Nat) (s:OS) (c:Nat):qA (ofC x k j) s (c+1)=ofC x k j (qA (ofC x k j) s c) c:=rfl
theorem z6v (x:yI.T) (k:Int) (s:OS) (j:Nat):qA (ofJ x k) s (j+1)=qA (ofC x k j) (qA (ofJ x k) s j) 3:=by
 rw [qA,ofJ]
theorem z6I {x:yI.T} {k:Int} {j:Nat} {s s0:OS} (hj:j<10000) (h:(j:Int)<s.2.length) (e:bfs x k 10000 0 s0=bfs x k (10000 - j) j s):bfs x k 10000 0 s0=bfs x k (10000 - (j+1)) (j+1) (ofJ x k s j):=by
 rw [e,show 10000 - j=(10000 - (j+1))+1 by omega,bfs,if_pos (by omega)]
theorem z3L {x:yI.T} {k:Int} {j:Nat} {s:OS} (h: ¬ (j:Int)<s.2.length): ∀ f,bfs x k f j s=s
 | 0=>rfl
 | f+1=>by rw [bfs,if_neg (by omega)]
theorem zQ5 {x:yI.T} {i:Nat} (h:(ofL x i).1.getD i 0>=0):ofL x (i+1)=ofL x i:=by
 show ofI x (ofL x i) i=_;unfold ofI;rw [if_pos h]
theorem z1z {x:yI.T} {i:Nat} (h: ¬ (ofL x i).1.getD i 0>=0):ofL x (i+1)=((bfs x (ofL x i).2 10000 0 ((ofL x i).1.set i (ofL x i).2,[(i:Int)])).1,(ofL x i).2+1):=by
 show ofI x (ofL x i) i=_;unfold ofI;rw [if_neg h]
theorem zRj {α:Type} {a b:α} : ∀ (i n:Nat),i<n->List.replicate (i+1) a++List.replicate (n - (i+1)) b=(List.replicate i a++List.replicate (n - i) b).set i a
 | 0,n+1,_=>by simp [List.replicate_succ]
 | i+1,n+1,h=>by
   have:=zRj (a:=a) (b:=b) i n (by omega);show a::(List.replicate (i+1) a++List.replicate (n+1 - (i+1+1)) b)=(a::(List.replicate i a++List.replicate (n+1 - (i+1)) b)).set (i+1) a;rw [List.set_cons_succ,show n+1 - (i+1+1)=n - (i+1) by omega,show n+1 - (i+1)=n - i by omega,this]
attribute [irreducible] ofC ofJ bfs ofI
def zU9 (n:Nat):Spec Nat where
 inv i:=i<=n
 live i:=[(16,.s (.int .i64 i))]
 keep:=[0,3,14,15]
 heap i:=[(1,.row y7 3 (List.replicate i (-1)++List.replicate (n - i) 0))]
 keepH:=[0]
 mu i:=n - i
def zUU (x:yI.T):Spec Nat where
 inv i:=i<=x.1.2.length
 live i:=[(25,.s (.int .i64 i)),(5,.s (.int .i64 (ofL x i).2))]
 keep:=[0,3,23,24]
 heap i:=[(1,.row y7 3 (ofL x i).1)]
 keepH:=[0]
 mu i:=x.1.2.length - i
def zVn (x:yI.T) (k:Int) (s:OS):Spec Nat where
 inv j:=j<=(qA (ofJ x k) s j).2.length/\bfs x k 10000 0 s=bfs x k (10000 - j) j (qA (ofJ x k) s j)
 live j:=[(8,.s (.int .i64 j)),(7,.s (.own 2 0 (qA (ofJ x k) s j).2.length))]
 keep:=[0,3,5,6,23,24,25]
 heap j:=[(1,.row y7 3 (qA (ofJ x k) s j).1),(2,.row y7 3 (qA (ofJ x k) s j).2)]
 keepH:=[0]
 mu j:=10000 - j
def zYD (x:yI.T) (k:Int) (j:Nat) (s:OS):Spec Nat where
 inv c:=c<=3
 live c:=[(45,.s (.int .i64 c)),(7,.s (.own 2 0 (qA (ofC x k j) s c).2.length))]
 keep:=[0,3,5,6,8,23,24,25]
 heap c:=[(1,.row y7 3 (qA (ofC x k j) s c).1),(2,.row y7 3 (qA (ofC x k j) s c).2)]
 keepH:=[0]
 mu c:=3 - c
theorem z3d (x:yI.T) (g:Good x):zAF ⟨tyL,[(74,zB2),(37,zSv)],[]⟩ Tryz.f145 [(ETy.pt yI).av (some x)] (fun v=>v= .s (.sl y7 (ofR x))):=by
 have hn:x.1.2.length<=8192:=g.fit.2.2.1
 repeat' (conv=>whnf
          first|done|refine qN (by first|rfl|omega|(simp only [yP] at *;omega)) ?_|apply qH|refine qG fun _=> ?_|apply qB|apply qa|apply qo|refine qe (fun _=> ?_) (fun _=> ?_)|refine qn (fun _=> ?_) (fun _=> ?_)|refine qd (fun _=> ?_) (fun _=> ?_)|apply qt|refine qi (fun _=> ?_) (fun _=> ?_)|(refine qT 3 rfl ?_;refine Or.inr (zB (Nat) (zB (zU9 x.1.2.length) (zA (zB (0) (zA (yK.out ?_) (zA ?_ (zA ?_ rfl)))) (fun i hi=> ?_)))))|((with_reducible show (∃ y,And (Spec.inv (zU9 _) y) _));refine zB (i+1) (zA (yK.out ?_) (zA (zA ?_ (zA ?_ rfl)) (yK.out ?_))))|(refine qT 9 rfl ?_;refine Or.inr (zB (Nat) (zB (zUU x) (zA (zB (0) (zA (yK.out ?_) (zA ?_ (zA ?_ rfl)))) (fun i hi=> ?_)))))|((with_reducible show (∃ y,And (Spec.inv (zUU _) y) _));refine zB (i+1) (zA (yK.out ?_) (zA (zA ?_ (zA ?_ rfl)) (yK.out ?_))))|(refine qT 15 rfl ?_;refine Or.inr (zB (Nat) (zB (zVn x (ofL x i).2 ((ofL x i).1.set i (ofL x i).2,[(i:Int)])) (zA (zB (0) (zA (yK.out ?_) (zA ?_ (zA ?_ rfl)))) (fun j hj=> ?_)))))|((with_reducible show (∃ y,And (Spec.inv (zVn _ _ _) y) _));refine zB (j+1) (zA (yK.out ?_) (zA (zA ?_ (zA ?_ rfl)) (yK.out ?_))))|(refine qT 18 rfl ?_;refine Or.inr (zB (Nat) (zB (zYD x (ofL x i).2 j (qA (ofJ x (ofL x i).2) ((ofL x i).1.set i (ofL x i).2,[(i:Int)]) j)) (zA (zB (0) (zA (yK.out ?_) (zA ?_ (zA ?_ rfl)))) (fun c hc=> ?_)))))|((with_reducible show (∃ y,And (Spec.inv (zYD _ _ _ _) y) _));refine zB (c+1) (zA (yK.out ?_) (zA (zA ?_ (zA ?_ rfl)) (yK.out ?_))))|refine zA rfl ?_|apply qE|apply qO|exact zN|apply qq|apply qs|refine qK (by kernel_rfl) ?_|apply qr)
 all_goals try first|apply qz1|apply qz2|apply qz3|apply qz4|apply qz5|apply qz6|apply qz7|apply qz8|apply qz9|apply qz0
 all_goals try simp only [zZ,zR,yD,z6,qn1,zY,qn2,zX,ETy.dflt,qn3,qn4,Int.reduceToNat,Int.reduceAdd,Int.reduceSub,Int.reduceNeg,Nat.reduceAdd,zD,zU9,zUU,zVn,zYD] at *
 all_goals try (refine yK.intro ?_;omega)
 ·exact zRj _ _ (by omega)
 ·have e:i=x.1.2.length:=by omega
  subst e;rw [Nat.sub_self];simp only [List.replicate_zero,List.append_nil];rfl
 ·rw [zQ5 (by assumption)]
 ·rw [zQ5 (by assumption)]
 all_goals try
  have hL:=zQy g i (by omega);have h0:=zLm (n:=x.1.2.length) (i:=i) hL.2.1 hL.1 (by omega) (by assumption)
 ·exact yK.intro ⟨Nat.zero_le _,rfl⟩
 ·rfl
 all_goals try have hJ:=zXM g hL.2.1 h0 j
 all_goals try
  have hC:=zPa g hL.2.1 (j:=j) hJ c;have hlen:=zR0 (x:=x) (k:=(ofL x i).2) (j:=j) (s:=qA (ofJ x (ofL x i).2) ((ofL x i).1.set i (ofL x i).2,[(i:Int)]) j) c;have hd:=hC.td j (by omega)
 all_goals try have hjc:=hJ.cnt
 all_goals try have hcc:=hC.cnt
 all_goals try (refine yK.intro ?_;(try unfold yP);omega)
 all_goals try (exact yK.intro (show @LE.le Int _ (3*(qA (ofC x (ofL x i).2 j) (qA (ofJ x (ofL x i).2) ((ofL x i).1.set i (ofL x i).2,[(i:Int)]) j) c).2.getD j 0+c) (1000000:Int) by omega))
 all_goals try (rw [zWI,z7m (by assumption) (by assumption)];first|done|exact zO)
 all_goals try (rw [zWI,z5d (by assumption) (by assumption)];done)
 all_goals try (rw [zWI,z6c (by assumption)];done)
 all_goals try (
  have:=z1Q g ‹_›
  first
   | (refine yK.intro ⟨by decide,?_⟩;rw [td3 (by assumption)];unfold yP;omega)
   | (refine yK.intro ?_;rw [td3 (by assumption)];omega))
 all_goals try (
  have e:c=3:=by omega
  subst e
  first
   | (rw [z6v];done)
   | exact yK.intro ⟨by rw [z6v];omega,z6I (by omega) (by assumption) hj.2⟩)
 ·rw [z1z (by assumption)]
 ·rw [z1z (by assumption),hj.2,z3L (by assumption)]
 ·have e:i=x.1.2.length:=by omega
  rw [e];unfold ofR;rw [List.drop_zero,List.take_of_length_le (by rw [(zQy g _ (zI _)).1];exact zI _)]
def z3y:List AV->Option Res:=zZ2 yI (fun x=>some (none,some (Good x),.s (.sl y7 (ofR x))))
theorem z3P:qL Tryz.prog 145 z3y:=⟨zLR fun x r h=>by cases h;exact qM (yN (fn:=[(74,zB2),(37,zSv)]) (fr:=[]) ⟨zDr,zKJ,trivial⟩ trivial) Tryz.func145 (by kernel_rfl) fun _ h=>z3d x h,_,Tryz.func145,by kernel_rfl,by kernel_rfl⟩
end S1
open Go Go.Vm Go.Proofs
namespace S1
def smC (x:yI.T) (i:Nat) (b:Bool) (c:Nat):Bool:=b|| decide (zAG x (3*i+c)<0)
def smI (x:yI.T) (l:List Int) (m:Int) (s:Int×Bool) (i:Nat):Int×Bool :=
 if l.getD i 0≠m then s else (s.1+1,qA (smC x i) s.2 3)
def smS (x:yI.T) (m:Int) (i:Nat):Int×Bool:=qA (smI x (ofR x) m) (0,false) i
def smM (x:yI.T) (v:Int):Int:=(ofR x).getD (yX x v / 3).toNat 0
def zB0 (x:yI.T) (v:Int):Bool:=decide ((smS x (smM x v) (ofR x).length).1=1)|| (decide ((smS x (smM x v) (ofR x).length).1=4)&& !(smS x (smM x v) (ofR x).length).2)
theorem zL3 {x:yI.T} (g:Good x):(ofR x).length=x.1.2.length:=(zQy g _ (zI _)).1
theorem z5L (x:yI.T) (m:Int) (i:Nat):smS x m (i+1)=smI x (ofR x) m (smS x m i) i:=rfl
theorem zNy {x:yI.T} {m:Int} {i:Nat} (h:(ofR x).getD i 0≠m):smS x m (i+1)=smS x m i:=by
 rw [z5L];unfold smI;rw [if_pos h]
theorem zJR {x:yI.T} {m:Int} {i:Nat} (h:(ofR x).getD i 0=m):smS x m (i+1)=((smS x m i).1+1,qA (smC x i) (smS x m i).2 3):=by
 rw [z5L];unfold smI;rw [if_neg (fun e=>e h)]
theorem z1Y (x:yI.T) (m:Int): ∀ i,0<=(smS x m i).1/\(smS x m i).1<=i
 | 0=>⟨Int.le_refl 0,Int.le_refl 0⟩
 | i+1=>by
   have:=z1Y x m i
   by_cases h:(ofR x).getD i 0=m
   ·rw [zJR h];show 0<=(smS x m i).1+1/\(smS x m i).1+1<=_;omega
   ·rw [zNy h];omega
theorem z20 (x:yI.T) (i:Nat) (b:Bool) (c:Nat):qA (smC x i) b (c+1)=(qA (smC x i) b c|| decide (zAG x (3*i+c)<0)):=rfl
def zXQ (x:yI.T) (m:Int):Spec Nat where
 inv i:=i<=(ofR x).length
 live i:=[(23,.s (.int .i64 i)),(7,.s (.int .i64 (smS x m i).1)),(8,.s (.bool (smS x m i).2))]
 keep:=[0,1,6,21,22]
 heap _:=[]
 keepH:=[]
 mu i:=(ofR x).length - i
def zXi (x:yI.T) (i:Nat) (b:Bool):Spec Nat where
 inv c:=c<=3
 live c:=[(11,.s (.int .i64 (3*i+c))),(8,.s (.bool (qA (smC x i) b c)))]
 keep:=[0,1,6,7,9,21,22,23]
 heap _:=[]
 keepH:=[]
 mu c:=3 - c
theorem z01 (x:yI.T) (v:Int) (h:Good x/\j6 x (yX x v)=true):zAF ⟨tyL,[(145,z3y),(124,zDu),(37,zSv)],[]⟩ Tryz.f111 [(ETy.pt yI).av (some x),y7.av v] (fun r=>r= .s (.bool (zB0 x v))):=by
 have hn:x.1.2.length<=8192:=h.1.fit.2.2.1;have hl:=zL3 h.1;have hc0:=yH.1 h.2;have hm:(ofR x).getD ((yX x v).tdiv 3).toNat 0=smM x v:=by rw [td3 hc0.1];rfl
 repeat' (conv=>whnf
          first|done|refine qN (by first|rfl|omega|(simp only [yP] at *;omega)) ?_|apply qH|refine qG fun _=> ?_|apply qB|apply qa|apply qo|refine qe (fun _=> ?_) (fun _=> ?_)|refine qn (fun _=> ?_) (fun _=> ?_)|refine qd (fun _=> ?_) (fun _=> ?_)|apply qt|refine qi (fun _=> ?_) (fun _=> ?_)|(refine qT 5 rfl ?_;refine Or.inr (zB (Nat) (zB (zXQ x (smM x v)) (zA (zB (0) (zA (yK.out ?_) (zA ?_ (zA ?_ rfl)))) (fun i hi=> ?_)))))|((with_reducible show (∃ y,And (Spec.inv (zXQ _ _) y) _));refine zB (i+1) (zA (yK.out ?_) (zA (zA ?_ (zA ?_ rfl)) (yK.out ?_))))|(refine qT 10 rfl ?_;refine Or.inr (zB (Nat) (zB (zXi x i (smS x (smM x v) i).2) (zA (zB (0) (zA (yK.out ?_) (zA ?_ (zA ?_ rfl)))) (fun c hc=> ?_)))))|((with_reducible show (∃ y,And (Spec.inv (zXi _ _ _) y) _));refine zB (c+1) (zA (yK.out ?_) (zA (zA ?_ (zA ?_ rfl)) (yK.out ?_))))|refine zA rfl ?_|apply qE|apply qO|exact zN|apply qq|apply qs|refine qK (by kernel_rfl) ?_|apply qr)
 all_goals try first|apply qz1|apply qz2|apply qz3|apply qz4|apply qz5|apply qz6|apply qz7|apply qz8|apply qz9|apply qz0
 all_goals try simp only [zZ,zR,yD,z6,qn1,zY,qn2,zX,ETy.dflt,qn3,qn4,Int.reduceToNat,Int.reduceAdd,Int.reduceSub,Int.reduceNeg,Nat.reduceAdd,zD,zXQ,zXi] at *
 all_goals try (refine yK.intro ?_;omega)
 all_goals try have hS:=z1Y x (smM x v) i
 all_goals try rw [hm] at *
 ·exact yK.intro h.1
 ·refine yK.intro ⟨by decide,?_⟩;rw [td3 hc0.1];unfold yP;omega
 ·refine yK.intro ?_;rw [td3 hc0.1,hl];omega
 ·rw [zNy (by assumption)]
 ·rw [zNy (by assumption)]
 ·refine yK.intro ?_;unfold yP;omega
 ·rw [z20,show qA (smC x i) (smS x (smM x v) i).2 c=true by assumption];rfl
 ·exact yK.intro (show @LE.le Int _ (3*(i:Int)+c) (1000000:Int) by omega)
 ·rw [z20,show qA (smC x i) (smS x (smM x v) i).2 c=false by assumption];rfl
 ·rw [zJR (by assumption)]
 ·rw [zJR (by assumption)];have e:c=3:=by omega
  rw [e]
 all_goals (
  have e:i=(ofR x).length:=by omega
  unfold zB0;rw [<- e])
 ·rename_i h1;rw [h1];rfl
 ·rename_i h1 h2;rw [h2];rfl
 ·rename_i h1 h2;rw [decide_eq_false h1,decide_eq_false h2];rfl
def zN9:List AV->Option Res:=zFg yI y7 (fun x v=>some (none,some (Good x/\j6 x (yX x v)=true),.s (.bool (zB0 x v))))
theorem zRu:qL Tryz.prog 111 zN9:=⟨zAm fun x v r h=>by cases h;exact qM (yN (fn:=[(145,z3y),(124,zDu),(37,zSv)]) (fr:=[]) ⟨z3P,zFb,zKJ,trivial⟩ trivial) Tryz.func111 (by kernel_rfl) fun _ h=>z01 x v h,_,Tryz.func111,by kernel_rfl,by kernel_rfl⟩
end S1
open Go Go.Vm Go.Proofs
namespace S1
def zG3 (x:yI.T) (a b:Int):List Int:=if a=b then [] else zBX ((zDC x a).filter fun v=>zDo v (zDC x b))
def z7S (o:Option yI.T) (a b:Int):List Int:=onO o [] fun x=>zG3 x a b
def z5S:List AV->Option Res:=zOh (.pt yI) y7 y7 (fun o a b=>some (none,some (∀ x,o=some x->Good x),.s (.sl y7 (z7S o a b))))
def zSx (f:List Int):List Int->Bool
 | []=>true
 | v::r=>zDo v f&&zSx f r
def zD8 (x:yI.T) (a b:Int):Int :=
 if !zAN x a b then 1 else if (zDd x a b).length=2/\zAT x a=false/\zAT x b=false then 2
 else if zSx (zDd x a b) (zG3 x a b)=false then 3 else if zB0 x a then 4 else 0
theorem z1A {x:yI.T} (g:Good x) {a b:Int} (h:zAN x a b=true):j6 x (yX x a)=true/\j6 x (yX x b)=true:=by
 have key: ∀ {a b:Int},0<=qJ x (a,b)->j6 x (yX x a)=true/\j6 x (yX x b)=true:=fun {a b} h=>by
  unfold qJ at h;cases e:jS .arr2 x.2.1 (a,b) with
  | none=>rw [e] at h;exact absurd h (by decide)
  | some c =>
    obtain ⟨h1,h2⟩:=g.map _ _ e;have e1:yR x (qY x c)=a:=congrArg Prod.fst h2;have e2:yR x (qV x c)=b:=congrArg Prod.snd h2;have k1:=g.cor _ (zAD h1).1;have k2:=g.cor _ (zAD h1).2;rw [e1] at k1;rw [e2] at k2;exact ⟨k1,k2⟩
 unfold zAN at h;rw [Bool.or_eq_true,zP,zP] at h;rcases h with h|h
 ·exact key h
 ·exact (key h).symm
theorem zZQ {α:Type} {x:yI.T} {d:α} {f:yI.T->α} :onO (some x) d f=f x:=rfl
theorem zWH {x:yI.T} {a b:Int} :z7S (some x) a b=zG3 x a b:=rfl
attribute [local irreducible] zAN zAT zDo zB0
def z2l (x:yI.T) (a b:Int):Spec Nat where
 inv i:=i<=(zG3 x a b).length/\zSx (zDd x a b) (zG3 x a b)=zSx (zDd x a b) ((zG3 x a b).drop i)
 live i:=[(39,.s (.int .i64 i))]
 keep:=[0,1,2,7,37,38]
 heap _:=[]
 keepH:=[]
 mu i:=(zG3 x a b).length - i
theorem z5Z (x:yI.T) (a b:Int) (g:Good x):zAF ⟨tyL,[(55,zKy),(109,zFi),(46,zNR),(110,z5S),(103,zAh),(111,zN9)],[]⟩ Tryz.f69 [(ETy.pt yI).av (some x),y7.av a,y7.av b] (fun r=>r= .s (.int .i64 (zD8 x a b))):=by
 repeat' (conv=>whnf
          first|done|refine qN (by first|rfl|omega|(simp only [yP] at *;omega)) ?_|apply qH|refine qG fun _=> ?_|apply qB|apply qa|apply qo|refine qe (fun _=> ?_) (fun _=> ?_)|refine qn (fun _=> ?_) (fun _=> ?_)|refine qd (fun _=> ?_) (fun _=> ?_)|apply qt|refine qi (fun _=> ?_) (fun _=> ?_)|(refine qT 7 rfl ?_;refine Or.inr (zB (Nat) (zB (z2l x a b) (zA (zB (0) (zA (yK.out ?_) (zA ?_ (zA ?_ rfl)))) (fun i hi=> ?_)))))|((with_reducible show (∃ y,And (Spec.inv (z2l _ _ _) y) _));refine zB (i+1) (zA (yK.out ?_) (zA (zA ?_ (zA ?_ rfl)) (yK.out ?_))))|refine zA rfl ?_|apply qE|apply qO|exact zN|apply qq|apply qs|refine qK (by kernel_rfl) ?_|apply qr)
 all_goals try first|apply qz1|apply qz2|apply qz3|apply qz4|apply qz5|apply qz6|apply qz7|apply qz8|apply qz9|apply qz0
 all_goals try simp only [zZ,zR,yD,z6,qn1,zY,qn2,zX,ETy.dflt,qn3,qn4,Int.reduceToNat,Int.reduceAdd,Int.reduceSub,Int.reduceNeg,Nat.reduceAdd,zD,z2l,zZQ,zWH] at *
 all_goals try have hnear:zAN x a b=true:=by assumption
 all_goals try have hlt:(i:Int)<((zG3 x a b).length:Int):=by assumption
 all_goals try have hge: ¬ (i:Int)<((zG3 x a b).length:Int):=by assumption
 all_goals try have hh:zDo ((zG3 x a b).getD i 0) (zDd x a b)=true:=by assumption
 all_goals try have hf:zDo ((zG3 x a b).getD i 0) (zDd x a b)=false:=by assumption
 all_goals try have hno:zAN x a b=false:=by assumption
 all_goals first
  | exact yK.intro (fun y e=>by cases e;exact g)
  | exact yK.intro ⟨Nat.zero_le _,rfl⟩
  | exact yK.intro ⟨g,(z1A g hnear).1⟩
  | (refine yK.intro ⟨by omega,?_⟩;rw [hi.2,zBU 0 hlt,zSx,hh];rfl)
  | exact yK.intro (by omega)
  | (have hw:zSx (zDd x a b) (zG3 x a b)=true:=by rw [hi.2,zE7 hge];rfl
     clear hi;unfold zD8;(try have hfl:(zDd x a b).length=2:=by omega);(try have hfn: ¬ (zDd x a b).length=2:=by omega);simp [*];done)
  | (have hw:zSx (zDd x a b) (zG3 x a b)=false:=by rw [hi.2,zBU 0 hlt,zSx,hf];rfl
     clear hi;unfold zD8;(try have hfl:(zDd x a b).length=2:=by omega);(try have hfn: ¬ (zDd x a b).length=2:=by omega);simp [*];done)
  | (unfold zD8;(try have hfl:(zDd x a b).length=2:=by omega);simp [*];done)
  | skip
end S1
open Go Go.Vm Go.Proofs
namespace S1
theorem zZz (v:Int) (l:List Int):zAF ⟨tyL,[(103,zAh)],[]⟩ Tryz.f144 [y7.av v,(ETy.pt (.sl y7)).av (some l)] (fun r=>r= .s (.bool (!zDo v l))):=by
 repeat' (conv=>whnf
          first|done|refine qN (by first|rfl|omega|(simp only [yP] at *;omega)) ?_|apply qH|refine qG fun _=> ?_|apply qB|apply qa|apply qo|refine qe (fun _=> ?_) (fun _=> ?_)|refine qn (fun _=> ?_) (fun _=> ?_)|refine qd (fun _=> ?_) (fun _=> ?_)|apply qt|refine qi (fun _=> ?_) (fun _=> ?_)|refine zA rfl ?_|apply qE|apply qO|exact zN|apply qq|apply qs|refine qK (by kernel_rfl) ?_|apply qr)
 all_goals try first|apply qz1|apply qz2|apply qz3|apply qz4|apply qz5|apply qz6|apply qz7|apply qz8|apply qz9|apply qz0
 all_goals try simp only [zZ,zR,yD,z6,qn1,zY,qn2,zX,ETy.dflt,qn3,qn4,Int.reduceToNat,Int.reduceAdd,Int.reduceSub,Int.reduceNeg,Nat.reduceAdd,zD,Option.getD_some] at *
def zNJ:List AV->Option Res:=zCs y7 (.pt (.sl y7)) (fun v o=>match o with|some l=>some (none,none,.s (.bool (!zDo v l)))|none=>none)
theorem zRR:qL Tryz.prog 144 zNJ:=⟨jC fun v o r h=>by
 cases o with
 | none=>cases h
 | some l=>cases h;exact qM (yN (fn:=[(103,zAh)]) (fr:=[]) ⟨zCS,trivial⟩ trivial) Tryz.func144 (by kernel_rfl) fun _ _=>zZz v l,_,Tryz.func144,by kernel_rfl,by kernel_rfl⟩
attribute [local irreducible] zDo
def zR1 (p:Int->Bool):List Int->Nat->Int
 | [],_=> -1
 | a::r,i=>if p a=true then (i:Int) else zR1 p r (i+1)
def zTu (p:Int->Bool) (l:List Int):Spec Nat where
 inv x:=x<=l.length/\zR1 p l 0=zR1 p (l.drop x) x
 live x:=[(8,.s (.int .i64 x))]
 keep:=[0,1,7]
 heap _:=[]
 keepH:=[]
 mu x:=l.length - x
theorem z4O (l m:List Int):zAF ⟨tyL,[(144,zNJ)],[]⟩ Tryz.f171 [(ETy.sl y7).av l,.s (.clo 144 [⟨.sl y7,m⟩])] (fun r=>r= .s (.int .i64 (zR1 (fun v=> !zDo v m) l 0))):=by
 repeat' (conv=>whnf
          first|done|refine qN (by first|rfl|omega|(simp only [yP] at *;omega)) ?_|apply qH|refine qG fun _=> ?_|apply qB|apply qa|apply qo|refine qe (fun _=> ?_) (fun _=> ?_)|refine qn (fun _=> ?_) (fun _=> ?_)|refine qd (fun _=> ?_) (fun _=> ?_)|apply qt|refine qi (fun _=> ?_) (fun _=> ?_)|(refine qT 2 rfl ?_;refine Or.inr (zB (Nat) (zB (zTu (fun v=> !zDo v m) l) (zA (zB (0) (zA (yK.out ?_) (zA ?_ (zA ?_ rfl)))) (fun x hx=> ?_)))))|((with_reducible show (∃ y,And (Spec.inv (zTu _ _) y) _));refine zB (x+1) (zA (yK.out ?_) (zA (zA ?_ (zA ?_ rfl)) (yK.out ?_))))|refine zA rfl ?_|apply qE|apply qO|exact zN|apply qq|apply qs|refine qK (by kernel_rfl) ?_|apply qr)
 all_goals try first|apply qz1|apply qz2|apply qz3|apply qz4|apply qz5|apply qz6|apply qz7|apply qz8|apply qz9|apply qz0
 all_goals try simp only [zZ,zR,yD,z6,qn1,zY,qn2,zX,ETy.dflt,qn3,qn4,Int.reduceToNat,Int.reduceAdd,Int.reduceSub,Int.reduceNeg,Nat.reduceAdd,zD,zTu] at *
 all_goals try (refine yK.intro ?_;omega)
 ·exact yK.intro ⟨Nat.zero_le _,rfl⟩
 ·rename_i h1 h2;exact yK.intro ⟨by omega,by rw [hx.2,zBU 0 h1,zR1,if_neg (by rw [h2];simp)]⟩
 ·rename_i h1 h2;rw [hx.2,zBU 0 h1,zR1,if_pos (by rw [h2];rfl)]
 ·rw [hx.2,zE7 (by assumption)];rfl
def z0y:List AV->Option Res
 | [.s (.sl (.int .i64) l),.s (.clo f [⟨.sl (.int .i64),m⟩])]=>match Nat.beq f 144 with
   | true=>some (none,none,.s (.int .i64 (zR1 (fun v=> !zDo v m) l 0)))
   | false=>none
 | _=>none
theorem z44:qL Tryz.prog 171 z0y:=⟨fun args r h=>by
 unfold z0y at h;split at h
 case h_2=>cases h
 split at h
 case h_2=>cases h
 rename_i he;cases h;rw [zH he]
 exact qM (yN (fn:=[(144,zNJ)]) (fr:=[]) ⟨zRR,trivial⟩ trivial) Tryz.func171 (by kernel_rfl) fun _ _=>z4O _ _,_,Tryz.func171,by kernel_rfl,by kernel_rfl⟩
def z8b:List AV->St->(AV->St->Prop)->Prop:=zRJ ⟨tyL,[(144,zNJ),(171,z0y)],[]⟩ Tryz.f143
theorem z5R : zIO Tryz.prog 143 z8b ∧ ∃ fn, Tryz.prog.funcs[143]? = some fn ∧ (fn.name == "runtime.NumGoroutine") = false ∧ fn.body.isNone = false :=
 ⟨zOc (yN (fn:=[(144,zNJ),(171,z0y)]) (fr:=[]) ⟨zRR,z44,trivial⟩ trivial) Tryz.func143 rfl (by kernel_rfl),_,Tryz.func143,by kernel_rfl,by kernel_rfl⟩
def zIV (p:Int->Bool) (xs:List Int):Spec (Nat×Nat×List Int) where
 inv x:=x.2.1<x.1/\x.1<=xs.length/\x.2.2.length=xs.length/\x.2.2.take x.2.1=(xs.take x.1).filter (fun v=> !p v)/\x.2.2.drop x.1=xs.drop x.1
 live x:=[(5,.s (.int .i64 x.2.1)),(6,.s (.int .i64 x.1))]
 keep:=[0,1]
 heap x:=[(3,.row y7 3 x.2.2)]
 keepH:=[0,4,5]
 mu x:=xs.length - x.1
theorem zTq (o:Option yI.T) (a:Int) (hg: ∀ x,o=some x->Good x):(zB9 o a).length<=40000:=by
 cases o with
 | none=>exact Nat.zero_le _
 | some x =>
   have:=(zGT (hg x rfl) a).1;show (zDC x a).length<=40000;unfold zDC;rw [zO,zT7 _ _ _ (zI _)];split
   ·simp only [List.length_singleton];omega
   ·simp only [List.length_nil];omega
theorem zUx (p:Int->Bool): ∀ (l:List Int) (i:Nat),(zR1 p l i= -1/\l.filter (fun v=> !p v)=l)\/(∃ k:Nat,zR1 p l i=((i+k:Nat):Int)/\k<l.length/\(l.take k).filter (fun v=> !p v)=l.take k/\p (l.getD k 0)=true)
 | [],i=> .inl ⟨rfl,rfl⟩
 | a ::r,i=>by
   unfold zR1;cases h:p a with
   | true=>exact .inr ⟨0,by simp,by simp,rfl,by simpa using h⟩
   | false =>
     rw [if_neg (by simp)];rcases zUx p r (i+1) with ⟨h1,h2⟩|⟨k,h1,h2,h3,h4⟩
     ·exact .inl ⟨h1,by rw [List.filter_cons_of_pos (by simp [h]),h2]⟩
     ·exact .inr ⟨k+1,by rw [h1];congr 1;omega,by simp;omega,by rw [List.take_succ_cons,List.filter_cons_of_pos (by simp [h]),h3],by simpa using h4⟩
theorem z1G {o:Option yI.T} {a b:Int} (h:a≠b):z7S o a b=zBX ((zB9 o a).filter fun v=>zDo v (zB9 o b)):=by
 cases o with
 | none=>show []=zBX [];exact (List.length_eq_zero_iff.1 (zDD [])).symm
 | some x=>show zG3 x a b=_;unfold zG3;rw [if_neg h];rfl
theorem z0L {p:Int->Bool} {xs:List Int} {x:Nat×Nat×List Int} (h:(zIV p xs).inv x) (hlt:x.1<xs.length) (hp:p (x.2.2.getD x.1 0)=false):(zIV p xs).inv (x.1+1,x.2.1+1,x.2.2.set x.2.1 (x.2.2.getD x.1 0)):=by
 obtain ⟨h1,h2,h3,h4,h5⟩:=h
 have e:x.2.2.getD x.1 0=xs.getD x.1 0:=by
  have:=congrArg (fun l=>l.getD 0 0) h5;simpa [zQ] using this
 refine ⟨by show x.2.1+1<x.1+1;omega,by show x.1+1<=_;omega,by show (x.2.2.set _ _).length=_;rw [List.length_set];exact h3,?_,?_⟩
 ·show (x.2.2.set x.2.1 (x.2.2.getD x.1 0)).take (x.2.1+1)=(xs.take (x.1+1)).filter _;rw [yB (by rw [List.length_set];omega),List.take_set_of_le (zI _),h4,List.getElem_set_self,yB hlt,List.filter_append];rw [e] at hp ⊢;rw [zQ,zG hlt] at hp ⊢;have hp:p xs[x.1]=false:=hp;rw [List.filter_cons_of_pos (by rw [hp];rfl)];rfl
 ·show (x.2.2.set x.2.1 _).drop (x.1+1)=xs.drop (x.1+1);rw [List.drop_set_of_lt (by omega),<- List.drop_drop,h5,List.drop_drop]
theorem z0p {p:Int->Bool} {xs:List Int} {x:Nat×Nat×List Int} (h:(zIV p xs).inv x) (hlt:x.1<xs.length) (hp:p (x.2.2.getD x.1 0)=true):(zIV p xs).inv (x.1+1,x.2.1,x.2.2):=by
 obtain ⟨h1,h2,h3,h4,h5⟩:=h
 have e:x.2.2.getD x.1 0=xs.getD x.1 0:=by
  have:=congrArg (fun l=>l.getD 0 0) h5;simpa [zQ] using this
 refine ⟨by show x.2.1<x.1+1;omega,by show x.1+1<=_;omega,h3,?_,?_⟩
 ·show x.2.2.take x.2.1=(xs.take (x.1+1)).filter _;rw [h4,yB hlt,List.filter_append];rw [e,zQ,zG hlt] at hp;have hp:p xs[x.1]=true:=hp;rw [List.filter_cons_of_neg (by rw [hp];simp)];simp
 ·show x.2.2.drop (x.1+1)=xs.drop (x.1+1);rw [<- List.drop_drop,h5,List.drop_drop]
theorem zUR (xs m:List Int):xs.filter (fun v=> !!zDo v m)=xs.filter fun v=>zDo v m:=by simp
theorem z6Z (o:Option yI.T) (a b:Int) (hg: ∀ x,o=some x->Good x):zAF ⟨tyL,[],[(142,.res zX9),(143,.run z8b),(75,.run zNu)]⟩ Tryz.f110 [(ETy.pt yI).av o,y7.av a,y7.av b] (fun r=>r= .s (.sl y7 (z7S o a b))):=by
 have hlt:=zUx (fun v=> !zDo v (zB9 o b)) (zB9 o a) 0;have hlen:=zTq o a hg
 repeat' (conv=>whnf
          first|done|refine qN (by first|rfl|omega|(simp only [yP] at *;omega)) ?_|apply qH|refine qG fun _=> ?_|apply qB|apply qa|apply qo|refine qe (fun _=> ?_) (fun _=> ?_)|refine qn (fun _=> ?_) (fun _=> ?_)|refine qd (fun _=> ?_) (fun _=> ?_)|apply qt|refine qi (fun _=> ?_) (fun _=> ?_)|(refine (fun (X:Array Value)=> ?_))|(refine qT 5 rfl ?_;refine Or.inr (zB (Nat×Nat×List Int) (zB (zIV (fun v=> !zDo v (zB9 o b)) (zB9 o a)) (zA (zB (((zR1 (fun v=> !zDo v (zB9 o b)) (zB9 o a) 0).toNat+1,(zR1 (fun v=> !zDo v (zB9 o b)) (zB9 o a) 0).toNat,zB9 o a)) (zA (yK.out ?_) (zA ?_ (zA ?_ rfl)))) (fun x hx=> ?_)))))|((with_reducible show (∃ y,And (Spec.inv (zIV _ _) y) _));refine zB ((x.1+1,if zDo (x.2.2.getD x.1 0) (zB9 o b)=true then x.2.1+1 else x.2.1,if zDo (x.2.2.getD x.1 0) (zB9 o b)=true then x.2.2.set x.2.1 (x.2.2.getD x.1 0) else x.2.2)) (zA (yK.out ?_) (zA (zA ?_ (zA ?_ rfl)) (yK.out ?_))))|refine zA rfl ?_|apply qE|apply qO|exact zN|apply qq|apply qs|refine qK (by kernel_rfl) ?_|apply qr)
 all_goals try first|apply qz1|apply qz2|apply qz3|apply qz4|apply qz5|apply qz6|apply qz7|apply qz8|apply qz9|apply qz0
 all_goals try simp only [zZ,zR,yD,z6,qn1,zY,qn2,zX,ETy.dflt,qn3,qn4,Int.reduceToNat,Int.reduceAdd,Int.reduceSub,Int.reduceNeg,Nat.reduceAdd,zD,zIV] at *
 ·rename_i h;cases o with
  | none=>rfl
  | some x=>show []=zG3 x a b;unfold zG3;rw [if_pos h]
 ·have hne:a≠b:=by assumption
  have hi:zR1 (fun v=> !zDo v (zB9 o b)) (zB9 o a) 0= -1:=by assumption
  rcases hlt with ⟨_,hf⟩|⟨k,hk,_⟩
  ·rw [z1G hne,<- zUR (zB9 o a) (zB9 o b),hf];simp only [List.take_zero,List.nil_append,List.drop_zero,List.drop_length,List.append_nil];exact List.take_of_length_le (Nat.le_of_eq (zDD _))
  ·rw [hk] at hi;omega
 all_goals
  have hne:a≠b:=by assumption
  have hi: ¬ zR1 (fun v=> !zDo v (zB9 o b)) (zB9 o a) 0= -1:=by assumption
  obtain ⟨k,hk,hk2,hk3,hk4⟩:=hlt.resolve_left (fun e=>hi e.1)
 ·rw [hk];refine yK.intro ?_;unfold yP;omega
 ·rw [hk];refine yK.intro ⟨by show ((k:Nat):Int).toNat<((k:Nat):Int).toNat+1;omega,by show ((k:Nat):Int).toNat+1<=_;omega,zN,?_,zN⟩;rw [Int.toNat_natCast,yB hk2,List.filter_append,hk3];rw [zQ,zG hk2] at hk4;have hk4:(!zDo (zB9 o a)[k] (zB9 o b))=true:=hk4;rw [List.filter_cons_of_neg (by rw [hk4];simp)];simp
 ·rw [hk];rfl
 ·rw [hk];rfl
 ·refine yK.intro ?_;omega
 ·refine yK.intro ?_;unfold yP;omega
 ·rename_i hq;rw [if_pos hq,if_pos hq];exact yK.intro (z0L hx (by omega) (by rw [hq];rfl))
 ·rename_i hq;rw [if_pos hq];rfl
 ·rename_i hq;rw [if_pos hq]
 ·refine yK.intro ?_;omega
 ·rename_i hq;rw [if_neg (by rw [hq];simp),if_neg (by rw [hq];simp)];exact yK.intro (z0p hx (by omega) (by rw [hq];rfl))
 ·rename_i hq;rw [if_neg (by rw [hq];simp)]
 ·rename_i hq;rw [if_neg (by rw [hq];simp)]
 ·refine yK.intro ?_;omega
 ·refine yK.intro ?_;omega
 ·refine yK.intro ?_;omega
 ·obtain ⟨h1,h2,h3,h4,h5⟩:=hx;have he:x.1=(zB9 o a).length:=by omega
  rw [he,List.take_length] at h4;rw [z1G hne,<- zUR (zB9 o a) (zB9 o b),<- h4];have hl:(x.2.2.take x.2.1).length=x.2.1:=by rw [j0];omega
  simp only [List.drop_zero,List.take_zero,List.nil_append];have e2: ∀ z:List Int,List.take x.2.1 (x.2.2.take x.2.1++z)=x.2.2.take x.2.1:=fun z=>by rw [List.take_append_of_le_length (Nat.le_of_eq hl.symm),List.take_of_length_le (Nat.le_of_eq hl)]
  rw [e2,List.take_append_of_le_length (by rw [zDD];omega),List.take_of_length_le (by rw [zDD];omega)]
theorem z2H:qL Tryz.prog 110 z5S:=⟨zDV fun o a b r h=>by
 cases h
 exact qM (yN (fn:=[]) (fr:=[(142,.res zX9),(143,.run z8b),(75,.run zNu)]) trivial ⟨z0f,z5R,zRH,trivial⟩) Tryz.func110 (by kernel_rfl) fun _ h=>z6Z o a b h,_,Tryz.func110,by kernel_rfl,by kernel_rfl⟩
end S1
open Go Go.Vm Go.Proofs
namespace S1
theorem z3i (a b:Int):zAF ⟨tyL,[(55,zKy),(109,zFi),(46,zNR),(110,z5S),(103,zAh),(111,zN9)],[]⟩ Tryz.f69 [(ETy.pt yI).av none,y7.av a,y7.av b] (fun r=>r= .s (.int .i64 1)):=by
 repeat' (conv=>whnf
          first|done|refine qN (by first|rfl|omega|(simp only [yP] at *;omega)) ?_|apply qH|refine qG fun _=> ?_|apply qB|apply qa|apply qo|refine qe (fun _=> ?_) (fun _=> ?_)|refine qn (fun _=> ?_) (fun _=> ?_)|refine qd (fun _=> ?_) (fun _=> ?_)|apply qt|refine qi (fun _=> ?_) (fun _=> ?_)|refine zA rfl ?_|apply qE|apply qO|exact zN|apply qq|apply qs|refine qK (by kernel_rfl) ?_|apply qr)
 all_goals try first|apply qz1|apply qz2|apply qz3|apply qz4|apply qz5|apply qz6|apply qz7|apply qz8|apply qz9|apply qz0
 all_goals try simp only [zZ,zR,yD,z6,qn1,zY,qn2,zX,ETy.dflt,qn3,qn4,Int.reduceToNat,Int.reduceAdd,Int.reduceSub,Int.reduceNeg,Nat.reduceAdd,zD] at *
def z5H (o:Option yI.T) (a b:Int):Int:=onO o 1 fun x=>zD8 x a b
def z3z:List AV->Option Res:=zOh (.pt yI) y7 y7 (fun o a b=>some (none,some (∀ x,o=some x->Good x),.s (.int .i64 (z5H o a b))))
theorem zT8:qL Tryz.prog 69 z3z:=⟨zDV fun o a b r h=>by
 cases h;cases o with
 | none=>exact qM (yN (fn:=[(55,zKy),(109,zFi),(46,zNR),(110,z5S),(103,zAh),(111,zN9)]) (fr:=[]) ⟨zMA,zKW,zQh,z2H,zCS,zRu,trivial⟩ trivial) Tryz.func69 (by kernel_rfl) fun _ _=>z3i a b
 | some x=>exact qM (yN (fn:=[(55,zKy),(109,zFi),(46,zNR),(110,z5S),(103,zAh),(111,zN9)]) (fr:=[]) ⟨zMA,zKW,zQh,z2H,zCS,zRu,trivial⟩ trivial) Tryz.func69 (by kernel_rfl) fun _ h=>z5Z x a b (h x rfl),_,Tryz.func69,by kernel_rfl,by kernel_rfl⟩
theorem z59 (o:Option yI.T) (a b:Int) (hg: ∀ x,o=some x->Good x):zAF ⟨tyL,[(69,z3z)],[]⟩ Tryz.f27 [(ETy.pt yI).av o,y7.av a,y7.av b] (fun r=>r= .s (.bool (z5H o a b==0))):=by
 repeat' (conv=>whnf
          first|done|refine qN (by first|rfl|omega|(simp only [yP] at *;omega)) ?_|apply qH|refine qG fun _=> ?_|apply qB|apply qa|apply qo|refine qe (fun _=> ?_) (fun _=> ?_)|refine qn (fun _=> ?_) (fun _=> ?_)|refine qd (fun _=> ?_) (fun _=> ?_)|apply qt|refine qi (fun _=> ?_) (fun _=> ?_)|refine zA rfl ?_|apply qE|apply qO|exact zN|apply qq|apply qs|refine qK (by kernel_rfl) ?_|apply qr)
 all_goals try first|apply qz1|apply qz2|apply qz3|apply qz4|apply qz5|apply qz6|apply qz7|apply qz8|apply qz9|apply qz0
 all_goals try simp only [zZ,zR,yD,z6,qn1,zY,qn2,zX,ETy.dflt,qn3,qn4,Int.reduceToNat,Int.reduceAdd,Int.reduceSub,Int.reduceNeg,Nat.reduceAdd,zD] at *
 all_goals first|exact yK.intro hg|skip
def z5a:List AV->Option Res:=zOh (.pt yI) y7 y7 (fun o a b=>some (none,some (∀ x,o=some x->Good x),.s (.bool (z5H o a b==0))))
theorem z2E:qL Tryz.prog 27 z5a:=⟨zDV fun o a b r h=>by cases h;exact qM (yN (fn:=[(69,z3z)]) (fr:=[]) ⟨zT8,trivial⟩ trivial) Tryz.func27 (by kernel_rfl) fun _ h=>z59 o a b h,_,Tryz.func27,by kernel_rfl,by kernel_rfl⟩
end S1
open Go Go.Vm Go.Proofs
namespace S1
theorem zCQ {x:yI.T} (g:Good x) (a:Int):zAN x a a=false:=by
 have key: ¬ 0<=qJ x (a,a):=fun h=>by
  unfold qJ at h;cases e:jS .arr2 x.2.1 (a,a) with
  | none=>rw [e] at h;exact absurd h (by decide)
  | some c =>
    obtain ⟨h1,h2⟩:=g.map _ _ e;exact g.ends c h1 (by rw [h2])
 unfold zAN;rw [decide_eq_false key];rfl
theorem z3Z {x:yI.T} {a b:Int} (h:zAN x a b=false):zD8 x a b=1:=by unfold zD8;rw [h];rfl
end S1
open Go Go.Vm Go.Proofs
namespace S1
theorem zQu (v:Int): ∀ (l:List Int) (i:Nat),zOr v l i>=0↔v∈l
 | [],i=>⟨fun h=>by have h:(-1:Int)>=0:=h;omega,fun h=>(by cases h)⟩
 | a ::r,i=>by
   unfold zOr;split
   ·rename_i e;subst e;exact ⟨fun _=>yA ..,fun _=>by omega⟩
   ·rename_i e;rw [zQu v r,zT];exact ⟨.inr,fun h=>h.resolve_left e⟩
theorem zQ4 {v:Int} {l:List Int} :zDo v l=true↔v∈l:=by
 unfold zDo;rw [zP,zQu]
theorem zMR {x:yI.T} (g:Full x) {a b v:Int} :v∈zG3 x a b↔a≠b/\zAN x a v=true/\zAN x b v=true:=by
 unfold zG3;split
 ·rename_i h;exact ⟨fun h=>(by cases h),fun h'=>absurd h h'.1⟩
 ·rename_i h;rw [(zGc _).mem_iff,List.mem_filter,zQ4,g.link_iff,g.link_iff];exact ⟨fun k=>⟨h,k⟩,fun k=>k.2⟩
theorem zQ8 {f l:List Int} :zSx f l=true↔∀ v∈l,v∈f:=by
 induction l with
 | nil=>exact ⟨fun _ v h=>(by cases h),fun _=>rfl⟩
 | cons a r ih =>
   unfold zSx;rw [zC,zQ4,ih]
   exact ⟨fun ⟨h1,h2⟩ v hv=>by
    rcases zT.1 hv with e|hv
    ·rw [e];exact h1
    ·exact h2 v hv,fun h=>⟨h a (yA ..),fun v hv=>h v (zS _ hv)⟩⟩
theorem zYl {x:yI.T} {a b:Int} (h:zD8 x a b=0): ∀ v∈zG3 x a b,v∈zDd x a b:=by
 unfold zD8 at h
 repeat' split at h
 all_goals first
  | (exact absurd h (by decide))
  | skip
 rename_i hw _;exact zQ8.1 (by cases e:zSx (zDd x a b) (zG3 x a b) with|true=>rfl|false=>exact absurd e hw)
end S1
