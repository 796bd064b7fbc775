/- A part of the proofs of the laws. -/
import Derived.Test.YtlhoihabllompaaGreatB2ptoY7
import Derived.Test.YtlhoihabllompaaGreatH2toB8p
import Derived.Test.YtlhoihabllompaaGreatW2toB1p
set_option linter.unusedSimpArgs false
set_option linter.unusedVariables false
set_option maxHeartbeats 8000000
set_option maxRecDepth 100000
open Go.Proofs.Tryz
open Go Go.Vm Go.Proofs
namespace S1
theorem zfO {l:List Int} {n:Int} (hn:l.Nodup) (h: ∀ v∈l,0<=v/\v<n):l.length<=n.toNat:=by
 have:=zBx l ((List.range n.toNat).map fun v=>((v:Nat):Int)) hn fun v hv=>yC.2 ⟨v.toNat,zV.2 (by have:=h v hv;omega),by have:=h v hv;omega⟩;rwa [yV,zAD] at this
def ownS (c:Nat->Nat):Nat->Nat
 | 0=>0
 | j+1=>ownS c j+c j
theorem zeb (a b:Nat->Nat): ∀ p,ownS (fun i=>a i+b i) p=ownS a p+ownS b p
 | 0=>rfl
 | p+1=>by
   show ownS _ p+(a p+b p)=(ownS a p+a p)+(ownS b p+b p);rw [zeb a b p];omega
theorem ze5 {c:Nat->Nat} : ∀ {p:Nat},(∀ i,i<p->c i=0)->ownS c p=0
 | 0,_=>rfl
 | p+1,h=>by
   show ownS c p+c p=0;rw [ze5 fun i hi=>h i (by omega),h p (by omega)]
theorem zf9 {b:Nat->Bool} : ∀ {p:Nat},(∀ i j,i<p->j<p->b i=true->b j=true->i=j)->ownS (fun i=>if b i=true then 1 else 0) p<=1
 | 0,_=>zbH _
 | p + 1,h=>by
   show ownS _ p+(if b p=true then 1 else 0)<=1
   by_cases k:b p=true
   ·have e:ownS (fun i=>if b i=true then 1 else 0) p=0:=ze5 fun i hi=>if_neg fun q=>by
     have:=h i p (by omega) (by omega) q k;omega
    rw [if_pos k,e];exact zI _
   ·rw [if_neg k];exact zf9 fun i j hi hj=>h i j (by omega) (by omega)
section
variable {x:yI.T}
theorem ze9 (g:Full x) {es:List (Int×Int)} {v:Int} {p:Nat} {u:Nat->Int} (hu: ∀ j,bE x (u (j+1)) (u j)) (h0:u p=v) (hl: ∀ j,1<=j->j<p->u j≠v) :
 ∀ (r j f:Nat),j+r=p->1<=r->r<=f->lpF x.1.2 v es f (u j) j (ownS (fun i=>zdz es (u i) (u (i+1)) es.length) j)=(p,ownS (fun i=>zdz es (u i) (u (i+1)) es.length) p)
 | 0,j,f,h1,h2,h3=>by omega
 | r+1,j,0,h1,h2,h3=>by omega
 | r +1,j,f+1,h1,h2,h3=>by
   have ea:zde x.1.2 (u j)=u (j+1):=zds g (hu j)
   by_cases e:j+1=p
   ·rw [zfj (by rw [ea,e,h0]),ea,<- e];rfl
   ·rw [zfo (by rw [ea];exact hl _ (by omega) (by omega)),ea];exact ze9 g hu h0 hl r (j+1) f (by omega) (by omega) (by omega)
open Classical in
theorem room (g:Full x) (hs:jV (InN x.1.1) x.1.2) {es:List (Int×Int)} (hf: ∀ e∈es,zBN x.1.2 e.1 e.2) (hp:es.Pairwise fun e f=>zAS x.1.2 e.1 e.2 f.1 f.2) {e:Int×Int} (he:e∈es) (hb:zJJ x e) :
 (3:Int)<=(ze1 x.1.2 x.1.1.toNat e.1 es).1 - (ze1 x.1.2 x.1.1.toNat e.1 es).2:=by
 have hv: ∃ w,bE x w e.1:=by
  rcases hb with k|k
  ·exact zCo g k
  ·exact ⟨_,k⟩
 have hL:=z5l g hv;have hself:=zXO g hv;obtain ⟨p,p0,e0,hl,eL⟩:=zPt g hv;obtain ⟨u,hu⟩: ∃ u:Nat->Int,u=fun j=>iter (nx x) e.1 j:=⟨_,rfl⟩;have u0:u 0=e.1:=by rw [hu];rfl
 have hstep: ∀ j,bE x (u (j+1)) (u j):=fun j=>by
  obtain ⟨w,hw⟩:=zHl g hv j;rw [hu];show bE x (nxt (zBm (some x)) (iter (nx x) e.1 j)) (iter (nx x) e.1 j);have:nxt (zBm (some x)) (iter (nx x) e.1 j)=w:=zDd g hw;rw [this];exact hw
 have hlen:(zA7 (some x) e.1).length=p:=by rw [eL,yV,zAD]
 have hget: ∀ i,i<p->(zA7 (some x) e.1).getD i 0=u i:=fun i hi=>by rw [eL,hu];exact zRs hi
 have hmem: ∀ i,i<p->u i∈zA7 (some x) e.1:=fun i hi=>by rw [<- hget i hi];exact getD_in (by rw [hlen];exact hi)
 have hinj: ∀ i j,i<p->j<p->u i=u j->i=j:=fun i j hi hj q=>by
  have hn:=hL.nd;rw [<- hget i hi,<- hget j hj,zR,zR,zG (by rw [hlen];exact hi),zG (by rw [hlen];exact hj)] at q;exact (List.getElem_inj hn).1 q
 have hpN:p<=x.1.1.toNat:=by
  rw [<- hlen];refine zfO hL.nd fun w hw=> ?_;obtain ⟨z,hz⟩:=hL.bord hw;exact (zJf g hz).2.1
 have hlop:ze1 x.1.2 x.1.1.toNat e.1 es=(p,ownS (fun i=>zdz es (u i) (u (i+1)) es.length) p):=by
  have:=ze9 g (es:=es) (v:=e.1) hstep (by rw [hu];first|done|exact e0) (fun j h1 h2=>by rw [hu];exact hl j h1 h2) p 0 x.1.1.toNat (by omega) p0 hpN;rw [u0] at this;exact this
 rw [hlop]
 let P:Int×Int->Bool:=fun d=>decide (zJJ x d/\d.1∈zA7 (some x) e.1)
 have one: ∀ d:Int×Int,ownS (fun i=>if isE d (u i) (u (i+1))=true then 1 else 0) p<=if P d=true then 1 else 0:=fun d=>by
  by_cases k:P d=true
  ·rw [if_pos k];refine zf9 fun i j hi hj a b=> ?_;rcases zdn.1 a with ⟨a1,a2⟩|⟨a1,a2⟩<;>rcases zdn.1 b with ⟨b1,b2⟩|⟨b1,b2⟩
   ·exact hinj i j hi hj (a1.symm.trans b1)
   ·have k1:=hstep i;have k2:=hstep j;rw [<- a1,<- a2] at k1;rw [<- b1,<- b2] at k2;exact absurd k2 (z6l g k1)
   ·have k1:=hstep i;have k2:=hstep j;rw [<- a1,<- a2] at k1;rw [<- b1,<- b2] at k2;exact absurd k2 (z6l g k1)
   ·exact hinj i j hi hj (a2.symm.trans b2)
  ·rw [if_neg k,ze5 fun i hi=>if_neg fun a=>k ?_]
   ·exact zI _
   ·refine decide_eq_true ?_;rcases zdn.1 a with ⟨a1,a2⟩|⟨a1,a2⟩
    ·refine ⟨.inr ?_,?_⟩
     ·rw [a1,a2];exact hstep i
     ·rw [a1];exact hmem i hi
    ·refine ⟨.inl ?_,?_⟩
     ·rw [a1,a2];exact hstep i
     ·rw [a1];have:u (i+1)=nx x (u i):=by rw [hu];rfl
      rw [this];exact hL.next g (hmem i hi)
 have cnt: ∀ k,k<=es.length->ownS (fun i=>zdz es (u i) (u (i+1)) k) p<=((es.take k).filter P).length:=fun k=>by
  induction k with
  | zero =>
    intro _;rw [ze5 fun i _=>by unfold zdz;rfl];exact zbH _
  | succ k ih =>
    intro hk;have ih:=ih (by omega);have e1:(fun i=>zdz es (u i) (u (i+1)) (k+1))=fun i=>zdz es (u i) (u (i+1)) k+if isE (es.getD k (0,0)) (u i) (u (i+1))=true then 1 else 0:=by funext i;exact zfN es _ _ k
    rw [e1,zeb,yB (by omega),zbx,zN];have e2:es.getD k (0,0)=es[k]:=by rw [zR,zG (by omega)];rfl
    have h2:=one (es.getD k (0,0));rw [e2] at h2 ⊢
    have e3:([es[k]].filter P).length=if P es[k]=true then 1 else 0:=by
     by_cases q:P es[k]=true
     ·rw [if_pos q,zbP q];rfl
     ·rw [if_neg q,zb3 q];rfl
    rw [e3];omega
 have hc:=cnt es.length (zI _);rw [zbK] at hc;obtain ⟨l1,l2,rfl⟩:=List.append_of_mem he;have hPe:P e=true:=decide_eq_true ⟨hb,hself⟩
 have hlP:((l1++e::l2).filter P).length=(l1.filter P).length+((l2.filter P).length+1):=by
  rw [zbx,zbP hPe,zN,yA]
 rw [hlP] at hc;obtain ⟨q1,q2,q3⟩:=List.pairwise_append.1 hp;obtain ⟨q4,q5⟩:=List.pairwise_cons.1 q2
 have hbud:=z7b g hs hL hb (hf e (by simp)) hself (D:=l1.filter P++l2.filter P) (fun d hd=>by
  have hd':(d∈l1\/d∈l2)/\P d=true:=by
   rcases yD.1 hd with k|k
   ·exact ⟨.inl (zb5.1 k).1,(zb5.1 k).2⟩
   ·exact ⟨.inr (zb5.1 k).1,(zb5.1 k).2⟩
  have hP:=of_decide_eq_true hd'.2
  exact ⟨hP.1,hf d (by rcases hd'.1 with k|k<;>simp [k]),hP.2⟩)
  (List.pairwise_append.2 ⟨q1.sublist List.filter_sublist,q5.sublist List.filter_sublist,fun a ha b hb=>q3 a (zb5.1 ha).1 b (zQ _ (zb5.1 hb).1)⟩)
  (fun d hd=>by
    rcases yD.1 hd with k|k
    ·exact q3 d (zb5.1 k).1 e (zY ..)
    ·exact zTO (q4 d (zb5.1 k).1))
 rw [zN,hlen] at hbud;show (3:Int)<=(p:Int) - (ownS _ p:Nat);omega
end
theorem zeV {es:List (Int×Int)} {i:Nat} (h:i<es.length):eAt es i∈es:=by
 unfold eAt;rw [zR,zG h];exact yQ _
theorem zep {s:Int×List P3} (hs:zBK s) {es:List (Int×Int)} :isI s.2 s.1.toNat es=true↔zFG s es:=by
 obtain ⟨g,hm⟩:=zV8 hs;have ex:(zAa s).1=s:=(zAu hs).2.2
 have hfr: ∀ {e:Int×Int},zdo s.2 s.1.toNat e=true↔zBN s.2 e.1 e.2:=fun {e} =>by
  have:=zfg g hm (e:=e);rw [ex] at this;exact this
 have hap: ∀ {a b:Int×Int},apI s.2 a b=true↔zdI s.2 a=true/\zdI s.2 b=true/\zAS s.2 a.1 a.2 b.1 b.2:=fun {a b} =>by
  unfold apI;rw [zC,zC,zPn]
 unfold isI;rw [zeR];constructor
 ·intro h
  have h1: ∀ i,i<es.length->zBN s.2 (eAt es i).1 (eAt es i).2/\∀ j,j<i->zAS s.2 (eAt es i).1 (eAt es i).2 (eAt es j).1 (eAt es j).2:=fun i hi=>by
   have:=h i hi;unfold okI at this;rw [zC,zC,hfr,zeC] at this;exact ⟨this.1,fun j hj=>(hap.1 (this.2.1 j hj)).2.2⟩
  refine ⟨hs,fun e he=> ?_,List.pairwise_iff_getElem.2 fun i j hi hj hij=> ?_⟩
  ·obtain ⟨i,hi,e1⟩:=yG.1 he;have:=(h1 i hi).1;unfold eAt at this;rw [zR,zG hi] at this;rw [<- e1];exact this
  ·have:=zTO ((h1 j hj).2 i hij);unfold eAt at this;rw [zR,zG hi,zR,zG hj] at this;exact this
 ·intro h i hi;have hfi:=h.free _ (zeV hi);have hed: ∀ {e:Int×Int},zBN s.2 e.1 e.2->zdI s.2 e=true:=fun f=>zea.2 ⟨f.ne,f.near⟩;unfold okI;rw [zC,zC,hfr,zeC];refine ⟨hfi,fun j hj=>hap.2 ⟨hed hfi,hed (h.free _ (zeV (by omega))),?_⟩,?_⟩
  ·have:=List.pairwise_iff_getElem.1 h.apart j i (by omega) hi hj;have e1:eAt es i=es[i]:=by unfold eAt;rw [zR,zG hi];rfl
   have e2:eAt es j=es[j]:=by unfold eAt;rw [zR,zG (by omega)];rfl
   rw [e1,e2];exact zTO this
  ·unfold rmI;rw [zbA,zbB,zP]
   by_cases hb:zdv s.2 (eAt es i)=true
   ·right;obtain ⟨t,ht,t1,t2⟩:=hfi.near;have r1:InN s.1 (eAt es i).1:=(zAc hs).ent t ht _ t1;have r2:InN s.1 (eAt es i).2:=(zAc hs).ent t ht _ t2;have hbe:zJJ (zAa s) (eAt es i):=(zfR g r1.1 r2.1).1 (by rw [ex];exact hb);have:=room g hm (es:=es) (by rw [ex];exact h.free) (by rw [ex];exact h.apart) (zeV hi) hbe;rw [ex] at this;exact this
   ·left;rw [<- zbV];exact hb
theorem zhH {es:List (Int×Int)} (hn:(es.map Prod.fst).Nodup) {v:Int} : ∀ k,k<=es.length->(∃ j,j<k/\(eAt es j).1=v)->phK es v k=phL es v
 | 0,_,⟨j,hj,_⟩=>absurd hj (Nat.not_lt_zero _)
 | k +1,hk,⟨j,hj,ej⟩=>by
   rw [zhM]
   by_cases e:(eAt es k).1=v
   ·rw [if_pos e,<- z4V hn (zeV (by omega)),e]
   ·rw [if_neg e];refine zhH hn k (by omega) ⟨j,?_,ej⟩;have:j≠k:=fun q=>e (by rw [<- q];exact ej);omega
theorem zhK {es:List (Int×Int)} {v:Int} : ∀ k,(∀ j,j<k->(eAt es j).1≠v)->phK es v k=v
 | 0,_=>by unfold phK;rfl
 | k+1,h=>by
   rw [zhM,if_neg (h k (by omega))];exact zhK k fun j hj=>h j (by omega)
theorem zh9 {es:List (Int×Int)} (hn:(es.map Prod.fst).Nodup) (v:Int):phE es v=phL es v:=by
 unfold phE
 by_cases h: ∃ j,j<es.length/\(eAt es j).1=v
 ·exact zhH hn _ (zI _) h
 ·rw [zhK es.length fun j hj e=>h ⟨j,hj,e⟩,z0q fun e he q=> ?_];obtain ⟨i,hi,e1⟩:=yG.1 he;refine h ⟨i,hi,?_⟩;have:eAt es i=es[i]:=by unfold eAt;rw [zR,zG hi];rfl
  rw [this,e1];exact q
theorem zhI (es:List (Int×Int)) (x:Int): ∀ k,k<=es.length->lwK es x k=(es.take k).countP fun e=>decide (e.1<x)
 | 0,_=>by unfold lwK;rfl
 | k+1,hk=>by
   have e1:eAt es k=es[k]:=by unfold eAt;rw [zR,zG (by omega)];rfl
   rw [zhS,zhI es x k (by omega),yB (by omega),List.countP_append,e1]
   congr 1
   by_cases q:es[k].1<x<;>simp [q]
theorem zhV {es:List (Int×Int)} (hn:(es.map Prod.fst).Nodup) (v:Int):toE es v=imF es v:=by
 unfold toE imF z1u;rw [zh9 hn,zhI es _ _ (zI _),zbK]
theorem zhP: ∀ (n:Nat) {s:Int×List P3} {es:List (Int×Int)},es.length=n->zFG s es->∀ {v w:Int},imF es v=imF es w->v=w\/∃ e∈es,(v=e.1/\w=e.2)\/(v=e.2/\w=e.1)
 | 0,s,es,hn,h,v,w,e=>by
   have:es=[]:=List.eq_nil_of_length_eq_zero hn;subst this;rw [zLp,zLp] at e;exact .inl e
 | n+1,s,[],hn,h,v,w,e=>by cases hn
 | n +1,s,(a,b)::r,hn,h,v,w,e=>by
   have hsep:=zW4 h;have hab:a≠b:=(h.free (a,b) (zY ..)).ne;rw [<- zHm hsep hab,<- zHm hsep hab] at e
   have hph: ∀ z,ph a b z≠a:=fun z=>by
    by_cases k:z=a
    ·rw [k,z2m];exact hab.symm
    ·rw [zLT k];exact k
   have back: ∀ {z c:Int},c≠a->c≠b->dn a (ph a b z)=dn a c->z=c:=fun {z c} ca cb k=>by
    have:=zRU (hph z) ca k
    by_cases q:z=a
    ·rw [q,z2m] at this;exact absurd this.symm cb
    ·rwa [zLT q] at this
   rcases zhP n (by rw [yV];exact Nat.succ.inj hn) (zXK h) e with k|⟨f,hf,k⟩
   ·rcases zXf (zRU (hph v) (hph w) k) with q|⟨q1,q2⟩|⟨q1,q2⟩
    ·exact .inl q
    ·exact .inr ⟨(a,b),zY ..,.inl ⟨q1,q2⟩⟩
    ·exact .inr ⟨(a,b),zY ..,.inr ⟨q1,q2⟩⟩
   ·obtain ⟨c,hc,rfl⟩:=yC.1 hf;refine .inr ⟨c,zQ _ hc,k.imp (fun ⟨k1,k2⟩=> ?_) fun ⟨k1,k2⟩=> ?_⟩
    ·exact ⟨back (hsep.fa c hc) (hsep.fb c hc) k1,back (hsep.sa c hc) (hsep.sb c hc) k2⟩
    ·exact ⟨back (hsep.sa c hc) (hsep.sb c hc) k1,back (hsep.fa c hc) (hsep.fb c hc) k2⟩
theorem zhW {s:Int×List P3} {es:List (Int×Int)} (h:zFG s es) {e f:Int×Int} (he:e∈es) (hf:f∈es):f.1≠e.2:=by
 by_cases k:e=f
 ·subst k;exact (h.free e he).ne
 ·have:zAS s.2 e.1 e.2 f.1 f.2:=by
   obtain ⟨i,hi,e1⟩:=yG.1 he;obtain ⟨j,hj,e2⟩:=yG.1 hf;have hp:=List.pairwise_iff_getElem.1 h.apart;rcases Nat.lt_trichotomy i j with q|q|q
   ·rw [<- e1,<- e2];exact hp i j hi hj q
   ·subst q;exact absurd (e1.symm.trans e2) k
   ·rw [<- e1,<- e2];exact zTO (hp j i hj hi q)
  exact (zD1 (h.free f hf) this).1.2
theorem zh7 {s:Int×List P3} {es:List (Int×Int)} (h:zFG s es) {e:Int×Int} (he:e∈es):imF es e.1=imF es e.2:=by
 have e1:phL es e.1=e.2:=z4V (zWY h) he;have e2:phL es e.2=e.2:=z0q fun f hf=>zhW h he hf;unfold imF;rw [e1,e2]
theorem zhX {s:Int×List P3} {es:List (Int×Int)} (h:zFG s es) {t:P3} (ht:t∈s.2):dgI (zDo (imF es) t)=zSg es t:=by
 have hd:=(zAc h.surf).deg t ht;rw [Bool.eq_iff_iff];unfold dgI zSg;simp only [zC,zP,zJ,zbB];constructor
 ·rintro ⟨h1,h2,h3⟩ e he;rw [<- zbV,zEf];rintro ⟨k1,k2⟩;have q:=zh7 h he;have ne:=(h.free e he).ne;rcases k1 with k1|k1|k1<;>rcases k2 with k2|k2|k2<;>rw [<- k1,<- k2] at q ne
  ·exact ne rfl
  ·exact h1 q
  ·exact h3 q
  ·exact h1 q.symm
  ·exact ne rfl
  ·exact h2 q
  ·exact h3 q.symm
  ·exact h2 q.symm
  ·exact ne rfl
 ·intro ho
  have key: ∀ {v w:Int},z8 t v->z8 t w->v≠w->imF es v≠imF es w:=fun {v w} hv hw ne q=>by
   rcases zhP _ rfl h q with k|⟨e,he,⟨k1,k2⟩|⟨k1,k2⟩⟩
   ·exact ne k
   ·have:=ho e he;rw [zEf.2 ⟨by rw [<- k1];exact hv,by rw [<- k2];exact hw⟩] at this;cases this
   ·have:=ho e he;rw [zEf.2 ⟨by rw [<- k2];exact hw,by rw [<- k1];exact hv⟩] at this;cases this
  unfold dgn at hd;exact ⟨key (.inl rfl) (.inr (.inl rfl)) (by omega),key (.inr (.inl rfl)) (.inr (.inr rfl)) (by omega),key (.inl rfl) (.inr (.inr rfl)) (by omega)⟩
theorem zgy {f:P3->P3} {p q:P3->Bool} : ∀ {l:List P3},(∀ t∈l,p (f t)=q t)->l.filterMap (fun t=>if p (f t)=true then some (f t) else none)=(l.filter q).map f
 | [],_=>rfl
 | t::l,h=>by
   have ih:=zgy (l:=l) fun u hu=>h u (zQ _ hu);have ht:=h t (zY ..)
   by_cases c:q t=true
   ·rw [List.filterMap_cons_some (b:=f t) (by rw [if_pos (by rw [ht];exact c)]),zbP c,zbk,ih]
   ·rw [List.filterMap_cons_none (by rw [if_neg (by rw [ht];exact c)]),zb3 c,ih]
theorem zhU {s:Int×List P3} {es:List (Int×Int)} (h:zFG s es):zhL s es=cls s es:=by
 unfold zhL cls;refine Prod.ext rfl ?_;show doI es s.2 s.2.length=_;have hf:toE es=imF es:=funext fun v=>zhV (zWY h) v
 have e1:doI es s.2 s.2.length=((List.range s.2.length).map fun i=>s.2.getD i (0,0,0)).filterMap fun t=>if dgI (zDo (imF es) t)=true then some (zDo (imF es) t) else none:=by
  rw [List.filterMap_map];unfold doI;refine congrArg (fun f=>List.filterMap f _) (funext fun i=> ?_);show doG es s.2 i=if dgI (zDo (imF es) (tg s.2 i))=true then some (zDo (imF es) (tg s.2 i)) else none;unfold doG;rw [hf]
 rw [e1,zGs];exact zgy fun t ht=>zhX h ht
end S1
namespace S1
theorem zVN {s:SoT} {l:EdB} {k:Nat} (h:z7x s l k) (hk:k<l.length):(l.drop (k+1)).map (zJh (doK s l (k+1)).2)=((l.drop (k+1)).map (zJh (doK s l k).2)).map (dn2 (zAV (doK s l k).2 (l.getD k (0,0)).1)):=by
 have hb:=h.bat;rw [zIU (0,0) hk,zbk] at hb;have hn:=(zFT h hk).2.2.1;rw [zcE];refine zbN fun e he=> ?_;have hm:zJh (doK s l k).2 e∈(l.drop (k+1)).map (zJh (doK s l k).2):=yC.2 ⟨e,he,rfl⟩;have hf2:zBN (doK s l k).1.2 (zJh (doK s l k).2 e).1 (zJh (doK s l k).2 e).2:=hb.free _ (zQ _ hm);have hap:=(List.pairwise_cons.1 hb.apart).1 _ hm;have hne:=zD1 hf2 hap;have hi2:=zCW hb.surf hf2;show (zAV _ e.1,zAV _ e.2)=(dn _ (zAV _ e.1),dn _ (zAV _ e.2))
 rw [(hn e.1 hi2.1.1).1,(hn e.2 hi2.2.1).1,zLT (show zAV (doK s l k).2 e.1≠zAV (doK s l k).2 (l.getD k (0,0)).1 from hne.1.1),zLT (show zAV (doK s l k).2 e.2≠zAV (doK s l k).2 (l.getD k (0,0)).1 from hne.2.1)]
theorem zQ5 {s:SoT} {l:EdB} (h:zFG s l): ∀ k,k<=l.length->cls (doK s l k).1 ((l.drop k).map (zJh (doK s l k).2))=cls s l/\∀ v,0<=v->imF ((l.drop k).map (zJh (doK s l k).2)) (zAV (doK s l k).2 v)=imF l v
 | 0,_=>by
   have e:(l.drop 0).map (zJh (doK s l 0).2)=l:=by
    rw [zb6];exact (zbN (fun e _=>show (zAV [] e.1,zAV [] e.2)=e from rfl)).trans (List.map_id l)
   rw [e];exact ⟨rfl,fun v _=>rfl⟩
 | k +1,hk=>by
   have hd:=zFF h k (by omega);obtain ⟨ih1,ih2⟩:=zQ5 h k (by omega);have hb:=hd.bat;have hst:=zFT hd (show k<l.length by omega);rw [zIU (0,0) (show k<l.length by omega),zbk] at hb ih1 ih2;rw [zVN hd (by omega)];refine ⟨?_,fun v hv=> ?_⟩
   ·rw [hst.2.1];exact (zZ0 hb).trans ih1
   ·rw [(hst.2.2.1 v (zUJ h hv k (by omega))).1,zHm (zW4 hb) (hb.free _ (zY ..)).ne];exact ih2 v hv
theorem z7O {s:SoT} {l:EdB} (h:zFG s l):(doK s l l.length).1=cls s l/\∀ v,0<=v->zAV (doK s l l.length).2 v=imF l v:=by
 obtain ⟨h1,h2⟩:=zQ5 h l.length (zI _);rw [zb7 (zI _),zcF] at h1 h2;rw [z35] at h1;refine ⟨h1,fun v hv=> ?_⟩;have:=h2 v hv;rwa [zLp] at this
end S1
namespace S1
def zGO (L:EdB) (to:List Int) (k i:Nat):EdB:=(List.range i).map fun j=>(to.getD (L.getD (k+j) (0,0)).1.toNat 0,to.getD (L.getD (k+j) (0,0)).2.toNat 0)
theorem zF0 {s:SoT} {L:EdB} (h:zFG s L):(doB s L).1=cls s L/\(doB s L).2.2=0:=by
 have hE:zMh s L=0:=by
  unfold zMh;rw [if_pos ((zB4 _).2 h.surf),if_pos ((zGf h.surf).2 h)]
 rw [zSZ hE];exact ⟨(z7O h).1,rfl⟩
theorem z0i {s:SoT} {L:EdB} (h:zFG s L) {K:Nat} (hK:K<=L.length):zNy s.1 (doK s L K).2=(imL (doK s L K).2 s.1.toNat,0):=by
 have hf1: @LE.le Int _ 0 s.1:=h.surf.fit.1;have hf2: @LE.le Int _ s.1 4096:=h.surf.fit.2.1;have e:zYl s.1 (doK s L K).2=0:=zYL (by omega) fun k _=>zUJ h (by omega) K hK;unfold zNy;rw [if_pos e]
theorem z1n {s:SoT} {L:EdB} (h:zFG s L):(doB s L).1.2.length<=s.2.length:=(z9S h rfl).2.2.2.2.2
attribute [local irreducible] doB zBe eqS zAh zAa isR zC9 zDs zGO zNy
end S1
namespace S1
def shT (k:Int) (t:P3):P3:=(t.1+k,t.2.1+k,t.2.2+k)
end S1
namespace S1
def jnN (L:List (Int×List P3)):Nat->Int
 | 0=>0
 | i+1=>jnN L i+(L.getD i (0,[])).1
def jnT (L:List (Int×List P3)):Nat->List P3
 | 0=>[]
 | i+1=>jnT L i++(L.getD i (0,[])).2.map (shT (jnN L i))
def jnK (L:List (Int×List P3)) (i k:Nat):List P3:=jnT L i++((L.getD i (0,[])).2.take k).map (shT (jnN L i))
attribute [local irreducible] jnN jnT jnK
end S1
namespace S1
theorem zcG {s:SoT} {l:EdB} (h:zC9 s l=false):s.2.length<=30/\s.1<=100/\l.length<=12:=by
 unfold zC9 at h;rw [Bool.or_eq_false_iff,Bool.or_eq_false_iff,yM,yM,yM] at h;omega
section
variable {x:yI.T}
end
attribute [local irreducible] zAa isR zC9 apB edS zdI jnN jnT
end S1
namespace S1
theorem zh4 (n:Int) (l:List P3) (es:EdB) (hx:zHP (n,l)=none):zAG ⟨tyL,[(54,zVC),(19,z7L),(64,zIF),(66,z60),(65,z5p)],[]⟩ Tryz.f24 [qP.av (n,l),(ETy.sl .arr2).av es] (fun r=>r=z7h (doB (n,l) es)):=by
 have h11:zMh (n,l) es=11:=by
  unfold zMh;rw [if_neg fun k=> ?_];rw [(zAu ((zB4 (n,l)).1 k)).1] at hx;cases hx
 repeat' (conv=>whnf
          first|done|refine qy ?_|refine qG fun _=> ?_|refine qw (fun _=> ?_) (fun _=> ?_)|apply qt|refine qi (fun _=> ?_) (fun _=> ?_)|refine qu ?_|refine qv ?_ ?_|exact zO)
 all_goals try first|refine qz ?_|apply qz5
 all_goals try simp only [qn0,z7,zX,ETy.dflt,Int.reduceToNat,Int.reduceAdd,Int.reduceSub,Int.reduceNeg,Nat.reduceAdd] at *
 all_goals try exact yJ.intro hx
 all_goals try
  have hc:(zJr (n,l)).1=0:=by assumption
  unfold zHP at hx;rw [if_pos hc] at hx;cases hx
 all_goals exact y9.intro (z2W h11 (by decide)).symm
def zh8:List AV->Option Res:=zCr qP (.sl .arr2) (fun s es=>some (none,some (es.length<=100000),z84 (doB s es)))
theorem zh2:qM prog 24 zh8:=mkR (jD fun s es r h=>by
 cases h;cases e:zHP s with
 | none=>exact zCn.res (fb (fn:=[(54,zVC),(19,z7L),(64,zIF),(66,z60),(65,z5p)]) ⟨zXB,z2S,zMV,z2u,zVA,trivial⟩ func24 fun _ _=>zh4 s.1 s.2 es e) fun I v h=>zQt h
 | some x=>exact zCn.res (fb (fn:=[(54,zKs x),(19,z7L),(64,zIF),(66,z60),(65,z5p)]) ⟨(zMB x),z2S,zMV,z2u,zVA,trivial⟩ func24 fun _ h=>z75 s.1 s.2 es x e h) fun I v h=>zQt h) func24
theorem zhQ {s:SoT} {es:EdB} {e:Int} (h:zMh s es=e) (he:e≠0):(doB s es).2.2=e/\(doB s es).2.1=[]/\(doB s es).1=(0,[]):=by
 rw [z7q h he];exact ⟨rfl,rfl,rfl⟩
theorem zhY {s:SoT} {es:EdB} (h:isR s=false):zMh s es=11:=by
 unfold zMh;rw [if_neg (by rw [h];decide)]
theorem zh1 {s:SoT} {es:EdB} (hs:zBK s) (h:isI s.2 s.1.toNat es=false):zMh s es=14:=by
 unfold zMh;rw [if_pos ((zB4 s).2 hs),if_neg fun k=> ?_];rw [(zep hs).2 ((zGf hs).1 k)] at h;cases h
theorem zh5 {s:SoT} {es:EdB} (h:zFG s es) {u:Nat} (hu:u<s.1.toNat):(imL (doK s es es.length).2 s.1.toNat).getD u 0=toE es u:=by
 rw [zhV (zWY h),<- (z7O h).2 u (by omega)];unfold imL;rw [zhE hu]
def zhO (n:Nat) (es:List (Int×Int)) (to:List Int):Spec Nat where
 inv v:=v<=n/\∀ u:Nat,u<v->to.getD u 0=toE es u
 live v:=[(10,.s (.int .i64 v))]
 keep:=[1,2,8]
 heap _:=[]
 keepH:=[0]
 mu v:=n - v
def zhT (es:List (Int×Int)) (v:Nat):Spec Nat where
 inv k:=k<=es.length
 live k:=[(12,.s (.int .i64 k)),(11,.s (.int .i64 (phK es v k)))]
 keep:=[1,2,8,10]
 heap _:=[]
 keepH:=[0]
 mu k:=es.length - k
def zhR (es:List (Int×Int)) (v:Nat):Spec Nat where
 inv k:=k<=es.length
 live k:=[(14,.s (.int .i64 k)),(13,.s (.int .i64 (lwK es (phE es v) k)))]
 keep:=[1,2,8,10,11]
 heap _:=[]
 keepH:=[0]
 mu k:=es.length - k
attribute [local irreducible] doB eqS zAa isR zC9 phK lwK isI zhL zNy
theorem lawBD_vc (n:Int) (l:List P3) (es:List (Int×Int)):zAG ⟨tyL,[(13,zLd),(14,zLm),(15,z42),(24,zh8),(20,zfe),(31,zh6),(32,zU8),(26,zIa)],[]⟩ Tryz.f7 [qP.av (n,l),(ETy.sl .arr2).av es] (fun r=>r= .s (.bool true)):=by
 repeat' (conv=>whnf
          first|done|refine qy ?_|refine qG fun _=> ?_|refine qw (fun _=> ?_) (fun _=> ?_)|apply qt|refine qi (fun _=> ?_) (fun _=> ?_)|(refine zaB 16 rfl (zhO n.toNat es (zNy n (doB (n,l) es).2.1).1) (0) ?_ ?_ ?_ fun v hv=> ?_)|with_reducible refine zaA (zhO _ _ _) (v+1) ?_ ?_ ?_ ?_|(refine zaB 20 rfl (zhT es v) (0) ?_ ?_ ?_ fun k hk=> ?_)|with_reducible refine zaA (zhT _ _) (k+1) ?_ ?_ ?_ ?_|(refine zaB 26 rfl (zhR es v) (0) ?_ ?_ ?_ fun q hq=> ?_)|with_reducible refine zaA (zhR _ _) (q+1) ?_ ?_ ?_ ?_|refine qu ?_|refine qv ?_ ?_|exact zO)
 all_goals try first|refine qz ?_|apply qz5
 all_goals try simp only [qn0,z7,zX,ETy.dflt,Int.reduceToNat,Int.reduceAdd,Int.reduceSub,Int.reduceNeg,Nat.reduceAdd,zhO,zhT,zhR] at *
 all_goals have hg36:=zcG (show zC9 (n,l) es=false by assumption)
 all_goals have hl30:l.length<=30:=hg36.1
 all_goals have hn100:n<=100:=hg36.2.1
 all_goals have hes:List.length es<=12:=hg36.2.2
 all_goals try simp only [show ∀ j,es.getD j (0,0)=eAt es j from fun _=>rfl] at *
 all_goals try (refine yJ.intro ?_;omega)
 all_goals try
  have hns:isR (n,l)=false:=by assumption
  obtain ⟨b1,b2,b3⟩:=zhQ (zhY (es:=es) hns) (by decide)
  first
  | (rw [b3];exact yJ.intro (zbH _))
  | (rw [b3];exact zHy _)
  | exact absurd (show ((doB (n,l) es).2.1.length:Int)=0 by rw [b2];rfl) (by assumption)
  | exact absurd b1 (by assumption)
 all_goals have hs:zBK (n,l):=(zB4 (n,l)).1 (by assumption)
 all_goals have hn0:0<=n:=hs.fit.1
 all_goals try exact yJ.intro ⟨by omega,hn0,by omega,by omega⟩
 all_goals try
  have hnb:isI l n.toNat es=false:=by assumption
  obtain ⟨b1,b2,b3⟩:=zhQ (zh1 (s:=(n,l)) hs hnb) (by decide)
  first
  | (rw [b3];exact yJ.intro (zbH _))
  | (rw [b3];exact zHy _)
  | exact absurd (show ((doB (n,l) es).2.1.length:Int)=0 by rw [b2];rfl) (by assumption)
  | exact absurd b1 (by assumption)
 all_goals have hb:zFG (n,l) es:=(zep (s:=(n,l)) hs).1 (by assumption)
 all_goals have hD:=zF0 hb
 all_goals have hd:=zFF hb es.length (zI _)
 all_goals have hB0:doB (n,l) es=((doK (n,l) es es.length).1,(doK (n,l) es es.length).2,0):=zSZ (by
            unfold zMh
            rw [if_pos ((zB4 (n,l)).2 hs),if_pos ((zGf hs).2 hb)])
 all_goals have hR:(doB (n,l) es).2.1=(doK (n,l) es es.length).2:=by rw [hB0]
 all_goals have him:=z0i hb (zI es.length)
 all_goals have hcl:(doB (n,l) es).1=zhL (n,l) es:=by rw [hD.1,zhU hb]
 all_goals have hlen:(doB (n,l) es).2.1.length=es.length:=by rw [hR];exact hd.len
 all_goals have hto:(zNy n (doB (n,l) es).2.1).1=imL (doK (n,l) es es.length).2 n.toNat:=by rw [hR,him]
 all_goals have htl:(zNy n (doB (n,l) es).2.1).1.length=n.toNat:=by rw [hto];exact zJ1 _ _
 all_goals have hok:(zNy n (doB (n,l) es).2.1).2=0:=by rw [hR,him]
 all_goals try exact absurd hD.2 (by assumption)
 all_goals try exact absurd hok (by assumption)
 all_goals try omega
 all_goals try
  have h9:eqS (doB (n,l) es).1 (zhL (n,l) es)=false:=by assumption
  rw [hcl,zHy] at h9;cases h9
 all_goals try exact yJ.intro ⟨hs,fun e he=>zCW hs (hb.free e he),by omega⟩
 all_goals try
  have:=z1n hb;refine yJ.intro ?_;show (doB (n,l) es).1.2.length<=100000;have e9:(n,l).2.length=l.length:=rfl;omega
 all_goals try (rw [hR];exact yJ.intro hd.ok)
 all_goals try exact yJ.intro ⟨zbH _,fun u hu=>absurd hu (Nat.not_lt_zero _)⟩
 all_goals try (unfold phK;rfl)
 all_goals try (unfold lwK;rfl)
 all_goals try
  rw [zhM]
  first
  | (rw [if_pos (by assumption)];done)
  | (rw [if_neg (by assumption)];done)
 all_goals
  have ek:k=es.length:=by omega
  subst ek;have ep:phK es (v:Int) es.length=phE es v:=rfl;simp only [ep] at *
 all_goals have hql:=zhJ es (phE es v) q
 all_goals try (refine yJ.intro ?_;unfold yP;omega)
 all_goals try
  rw [zhS]
  first
  | (rw [if_pos (by assumption)];omega)
  | (rw [if_neg (by assumption)];omega)
 all_goals
  have eq:q=es.length:=by omega
  subst eq;have hv1:v<n.toNat:=by omega
  have htv:(zNy n (doB (n,l) es).2.1).1.getD v 0=toE es v:=by rw [hto];exact zh5 hb hv1
 all_goals try exact absurd htv (by assumption)
 all_goals try exact yJ.intro ⟨by omega,zd7 hv.2 htv⟩
 all_goals
  have h2:InN n (phE es v):=zhF (fun e he=>zCW hs (hb.free e he)) (v:=(v:Int)) ⟨by omega,by omega⟩ es.length (zI _);have h3:0<=phE es v/\phE es v<n:=h2;refine yJ.intro ?_;unfold yP;omega
def lawBDC:List AV->Option Res:=zCr qP (.sl .arr2) (fun _ _=>some (none,none,.s (.bool true)))
theorem lawBDRow:qM prog 7 lawBDC:=mkR (jD fun s es r h=>by cases h;exact fb (by exact ⟨zTA,zSf,z4t,zh2,zej,zhZ,zZo,zOc,trivial⟩) func7 fun _ _=>lawBD_vc s.1 s.2 es) func7
end S1
