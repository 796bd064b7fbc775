/- A part of the proofs of the laws. -/
import Derived.Test.YtahbknnehddjgaaF7toZ1p
import Derived.Test.YtahbknnehddjgaaT19toTS
import Derived.Test.YtahbknnehddjgaaT0toVmInl
import Derived.Test.YtahbknnehddjgaaT17toW1
import Derived.Test.YtahbknnehddjgaaF4toT16
set_option linter.unusedSimpArgs false
set_option linter.unusedVariables false
set_option maxHeartbeats 8000000
set_option maxRecDepth 100000
open Go Go.Vm Go.Proofs
namespace S1
theorem link_nd {x:tabE.T} (g:Full x) {v:Int} (hv:InN x.1.1 v):(linkR x v).Nodup:=by
  obtain ⟨b,_,eL,_,_,hb3,hall,_⟩:=g.around hv.1 hv.2
  have hpos:(aroundL (some x) v).length≥1:=List.length_pos_of_mem hb3
  have nd:=around_nd g hv.1 hv.2
  have hlast:lkLast (aroundL (some x) v) (aroundL (some x) v).length=(aroundL (some x) v).getD ((aroundL (some x) v).length - 1) 0:=by
    unfold lkLast;rw [if_neg (by omega)]
  have hin:(aroundL (some x) v).getD ((aroundL (some x) v).length - 1) 0∈aroundL (some x) v:=getD_mem (by omega)
  unfold linkR
  rw [List.nodup_append]
  refine ⟨?_,?_,?_⟩
  · unfold lkO
    rw [List.take_length]
    refine List.Pairwise.map _ (fun c d hh e=> ?_) (nd.imp_of_mem (S:=fun c d=>c≠d∧c∈aroundL (some x) v∧d∈aroundL (some x) v) fun hc hd hn=>⟨hn,hc,hd⟩)
    obtain ⟨hn,hc,hd⟩:=hh
    obtain ⟨c1,c2⟩:=hall c hc
    obtain ⟨d1,d2⟩:=hall d hd
    exact hn (g.toGood.same c1 d1 (c2.trans d2.symm) e)
  · split
    · exact List.nodup_cons.2 ⟨by simp,List.nodup_nil⟩
    · exact List.nodup_nil
  · intro p hp q hq e
    subst e
    split at hq
    · rename_i hc
      rw [List.mem_singleton.1 hq] at hp
      unfold lkO at hp
      rw [List.take_length] at hp
      obtain ⟨d,hd,ed⟩:=List.mem_map.1 hp
      rw [hlast] at hc ed
      obtain ⟨c1,c2⟩:=hall _ hin
      obtain ⟨d1,d2⟩:=hall d hd
      have:=g.after_is c1 d1 (d2.trans c2.symm) ed
      have:=(tHas_iff.1 d1).1
      omega
    · cases hq
theorem com_nd {x:tabE.T} (g:Full x) {a b:Int} (ha:InN x.1.1 a):(comR x a b).Nodup:=by
  unfold comR
  split
  · exact List.nodup_nil
  · exact (sortI_perm _).nodup_iff.2 ((link_nd g ha).filter _)
theorem nodup_len {k l:List Int} (hk:k.Nodup) (hl:l.Nodup) (h: ∀ v,v∈k↔v∈l):k.length=l.length :=
  Nat.le_antisymm (len_sub k l hk fun v hv=>(h v).1 hv) (len_sub l k hl fun v hv=>(h v).2 hv)
theorem com_out {x:tabE.T} (g:Full x) {a b:Int} (h: ¬ (InN x.1.1 a∧InN x.1.1 b)):comR x a b=[]:=by
  cases hc:comR x a b with
  | nil=>rfl
  | cons v r =>
    obtain ⟨_,h1,h2⟩:=(com_mem g).1 (show v∈comR x a b by rw [hc];exact List.mem_cons_self ..)
    exact absurd ⟨(near_in g.toGood h1).1,(near_in g.toGood h2).1⟩ h
theorem com_len_comm {x:tabE.T} (g:Full x) (a b:Int):(comR x a b).length=(comR x b a).length:=by
  by_cases h:InN x.1.1 a∧InN x.1.1 b
  · refine nodup_len (com_nd g h.1) (com_nd g h.2) fun v=> ?_
    rw [com_mem g,com_mem g]
    exact ⟨fun ⟨h1,h2,h3⟩=>⟨Ne.symm h1,h3,h2⟩,fun ⟨h1,h2,h3⟩=>⟨Ne.symm h1,h3,h2⟩⟩
  · rw [com_out g h,com_out g (fun k=>h ⟨k.2,k.1⟩)]
theorem Iso.comN {s s':Int×List P3} {r:Int→Int} (f:Iso s s' r) (hs:Surf s) (hs':Surf s') {a b:Int} (ha:InN s.1 a) (hb:InN s.1 b):(comR (newT s') (r a) (r b)).length=(comR (newT s) a b).length:=by
  obtain ⟨_,g,e⟩:=new_of hs
  obtain ⟨_,g',e'⟩:=new_of hs'
  have ha2:InN (newT s).1.1 a:=by rw [e];exact ha
  have ha3:InN (newT s').1.1 (r a):=by rw [e'];exact f.rng a ha
  have inn: ∀ {v},v∈comR (newT s) a b→InN s.1 v:=fun hv=>by have:=(near_in g.toGood ((com_mem g).1 hv).2.1).2;rw [e] at this;exact this
  have h1:((comR (newT s) a b).map r).Nodup:=by
    refine List.Pairwise.map _ (fun v w hh e=> ?_) ((com_nd g (b:=b) ha2).imp_of_mem (S:=fun v w=>v≠w∧v∈comR (newT s) a b∧w∈comR (newT s) a b) fun hv hw hn=>⟨hn,hv,hw⟩)
    exact hh.1 (f.inj _ _ (inn hh.2.1) (inn hh.2.2) e)
  rw [show (comR (newT s) a b).length=((comR (newT s) a b).map r).length from (List.length_map r).symm]
  refine nodup_len (com_nd g' ha3) h1 fun u=> ?_
  constructor
  · intro hu
    have hun:InN s'.1 u:=by have:=(near_in g'.toGood ((com_mem g').1 hu).2.1).2;rw [e'] at this;exact this
    obtain ⟨v,hv,rfl⟩:=f.sur u hun
    exact List.mem_map.2 ⟨v,(f.com hs hs' ha hb hv).1 hu,rfl⟩
  · intro hu
    obtain ⟨v,hv,rfl⟩:=List.mem_map.1 hu
    exact (f.com hs hs' ha hb (inn hv)).2 hv
def mirT (t:P3):P3:=(t.1,t.2.2,t.2.1)
theorem mirT_inj {t u:P3} (h:mirT t=mirT u):t=u:=by
  have e1:=congrArg Prod.fst h
  have e2:=congrArg (fun p=>p.2.1) h
  have e3:=congrArg (fun p=>p.2.2) h
  exact Prod.ext e1 (Prod.ext e3 e2)
theorem mirT_hasV {t:P3} {v:Int} :hasV (mirT t) v↔hasV t v:=by unfold hasV mirT;simp only;omega
theorem mirT_dE {t:P3} {p q:Int} :dE (mirT t) p q↔dE t q p:=by unfold dE mirT;simp only;omega
theorem surfM_mir {V:Int→Prop} {l:List P3} (h:SurfM V l):SurfM V (l.map mirT):=by
  refine ⟨?_,fun t' ht' u hu=> ?_,fun t' ht'=> ?_,fun t' ht' u' hu' hne p q h1 h2=> ?_,fun t' ht' u' hu' hne hh=> ?_,fun u hu=> ?_,fun u hu=> ?_⟩
  · exact List.Pairwise.map _ (fun t u hn e=>hn (mirT_inj e)) h.nd
  · obtain ⟨t,ht,rfl⟩:=List.mem_map.1 ht'
    exact h.ent t ht u (mirT_hasV.1 hu)
  · obtain ⟨t,ht,rfl⟩:=List.mem_map.1 ht'
    have hd:=h.deg t ht
    unfold dgn mirT
    unfold dgn at hd
    simp only
    omega
  · obtain ⟨t,ht,rfl⟩:=List.mem_map.1 ht'
    obtain ⟨u,hu,rfl⟩:=List.mem_map.1 hu'
    exact h.dif t ht u hu (fun e=>hne (by rw [e])) _ _ (mirT_dE.1 h1) (mirT_dE.1 h2)
  · obtain ⟨t,ht,rfl⟩:=List.mem_map.1 ht'
    obtain ⟨u,hu,rfl⟩:=List.mem_map.1 hu'
    exact h.mir t ht u hu (fun e=>hne (by rw [e])) ⟨mirT_hasV.1 hh.1,mirT_hasV.1 hh.2.2,mirT_hasV.1 hh.2.1⟩
  · obtain ⟨t,ht,tv⟩:=h.use u hu
    exact ⟨_,List.mem_map.2 ⟨t,ht,rfl⟩,mirT_hasV.2 tv⟩
  · intro Q hQ t' ht' tv' hq u' hu' uv'
    obtain ⟨t,ht,rfl⟩:=List.mem_map.1 ht'
    obtain ⟨w,hw,rfl⟩:=List.mem_map.1 hu'
    refine h.pin u hu (fun s=>Q (mirT s)) (fun s hs q hq2 sv qv ⟨z,zv,sz,qz⟩ k=> ?_) t ht (mirT_hasV.1 tv') hq w hw (mirT_hasV.1 uv')
    exact hQ _ (List.mem_map.2 ⟨s,hs,rfl⟩) _ (List.mem_map.2 ⟨q,hq2,rfl⟩) (mirT_hasV.2 sv) (mirT_hasV.2 qv) ⟨z,zv,mirT_hasV.2 sz,mirT_hasV.2 qz⟩ k
theorem tg_map {f:P3→P3} {l:List P3} {i:Nat} (h:i<l.length):tg (l.map f) i=f (tg l i):=by
  unfold tg
  rw [List.getD_eq_getElem?_getD,List.getD_eq_getElem?_getD,List.getElem?_eq_getElem (by rw [List.length_map];exact h),List.getElem?_eq_getElem h,List.getElem_map];rfl
theorem mir_surf {n:Int} {l:List P3} (h:Surf (n,l)):Surf (n,l.map mirT) :=
  surf_ofM h.fit.1 h.fit.2.1 (by rw [List.length_map];exact h.fit.2.2.1) (surfM_mir (surfM_of h))
theorem mir_iso (n:Int) (l:List P3):Iso (n,l) (n,l.map mirT) id :=
  ⟨by rw [List.length_map],fun _ h=>h,fun _ _ _ _ e=>e,fun u hu=>⟨u,hu,rfl⟩,fun i hi v _=>by rw [tg_map hi];exact mirT_hasV⟩
theorem why_out {x:tabE.T} (g:Full x) {a b:Int} (h: ¬ (InN x.1.1 a∧InN x.1.1 b)):whyR x a b=1:=by
  apply why_far
  cases hn:nearR x a b with
  | false=>rfl
  | true=>exact absurd (near_in g.toGood hn) h
theorem mir_why {n:Int} {l:List P3} (h:Surf (n,l)) (a b:Int):whyR (newT (n,l.map mirT)) a b=whyR (newT (n,l)) a b:=by
  by_cases hab:InN n a∧InN n b
  · exact (mir_iso n l).why h (mir_surf h) hab.1 hab.2
  · obtain ⟨_,g,e⟩:=new_of h
    obtain ⟨_,g',e'⟩:=new_of (mir_surf h)
    rw [why_out g (by rw [e];exact hab),why_out g' (by rw [e'];exact hab)]
def nameF (to:List Int) (v:Int):Int:=to.getD v.toNat 0
def Perm (n:Int) (to:List Int):Prop:=(to.length:Int)=n∧(∀ x∈to,InN n x)∧to.Nodup
theorem perm_rng {n:Int} {to:List Int} (h:Perm n to) {v:Int} (hv:InN n v):InN n (nameF to v):=by
  obtain ⟨h1,h2,_⟩:=h
  unfold InN at hv
  exact h2 _ (getD_mem (by omega))
theorem perm_inj {n:Int} {to:List Int} (h:Perm n to) {v w:Int} (hv:InN n v) (hw:InN n w) (e:nameF to v=nameF to w):v=w:=by
  obtain ⟨h1,_,h3⟩:=h
  unfold InN at hv hw
  unfold nameF at e
  have i1:v.toNat<to.length:=by omega
  have i2:w.toNat<to.length:=by omega
  rw [List.getD_eq_getElem?_getD,List.getD_eq_getElem?_getD,List.getElem?_eq_getElem i1,List.getElem?_eq_getElem i2] at e
  have e:to[v.toNat]=to[w.toNat]:=e
  rcases Nat.lt_trichotomy v.toNat w.toNat with k | k | k
  · exact absurd e (List.pairwise_iff_getElem.1 h3 _ _ i1 i2 k)
  · omega
  · exact absurd e.symm (List.pairwise_iff_getElem.1 h3 _ _ i2 i1 k)
theorem perm_sur {n:Int} {to:List Int} (h:Perm n to) {u:Int} (hu:InN n u): ∃ v,InN n v∧nameF to v=u:=by
  obtain ⟨h1,h2,h3⟩:=h
  unfold InN at hu
  have hmem:u∈to:=by
    apply Classical.byContradiction
    intro hn
    have:=len_sub (u::to) ((List.range n.toNat).map fun i:Nat=>(i:Int)) (List.nodup_cons.2 ⟨hn,h3⟩) (fun x hx=>by
      have hx2:InN n x:=by
        rcases List.mem_cons.1 hx with e | e
        · rw [e];exact hu
        · exact h2 x e
      unfold InN at hx2
      exact List.mem_map.2 ⟨x.toNat,List.mem_range.2 (by omega),by omega⟩)
    rw [List.length_cons,List.length_map,List.length_range] at this
    omega
  obtain ⟨i,hi,e⟩:=List.mem_iff_getElem.1 hmem
  refine ⟨i,⟨by omega,by omega⟩,?_⟩
  unfold nameF
  rw [show ((i:Int)).toNat=i by omega,List.getD_eq_getElem?_getD,List.getElem?_eq_getElem hi];exact e
theorem name_surf {n:Int} {l:List P3} {to:List Int} (h:Surf (n,l)) (hp:Perm n to):Surf (n,l.map (mapT (nameF to))) :=
  surf_ofM h.fit.1 h.fit.2.1 (by rw [List.length_map];exact h.fit.2.2.1) (surfM_map (surfM_of h) (nameF to) (fun _ hv=>perm_rng hp hv) (fun _ _ hv hw e=>perm_inj hp hv hw e) (fun _ hu=>perm_sur hp hu))
theorem name_iso {n:Int} {l:List P3} {to:List Int} (h:Surf (n,l)) (hp:Perm n to):Iso (n,l) (n,l.map (mapT (nameF to))) (nameF to) :=
  ⟨by rw [List.length_map],fun _ hv=>perm_rng hp hv,fun _ _ hv hw e=>perm_inj hp hv hw e,fun _ hu=>perm_sur hp hu,fun i hi v hv=>by
    rw [tg_map hi,mapT_hasV]
    exact ⟨fun ⟨w,hw,e⟩=>by rw [← perm_inj hp ((surfM_of h).ent _ (tg_mem hi) w hw) hv e];exact hw,fun k=>⟨v,k,rfl⟩⟩⟩
end S1
open Go Go.Vm Go.Proofs
namespace S1
def fitB (t:P3) (n:Int):Bool:=triIn n t&&(t.1 != t.2.1&&(t.2.1 != t.2.2&&t.2.2 != t.1))
theorem fits_vc {fn} (t:P3) (n:Int):afun ⟨tyL,fn,[]⟩ Try.f57 [ETy.arr3.av t,i64E.av n] (fun r=>r= .s (.bool (fitB t n))):=by
  repeat' (conv=>whnf
           first | done | refine qN (by first | rfl | omega | (simp only [i64ok] at *;omega)) ?_ | apply qH | refine qG fun _=> ?_ | apply qB | apply qa | apply qo | refine qe (fun _=> ?_) (fun _=> ?_) | refine qn (fun _=> ?_) (fun _=> ?_) | refine qd (fun _=> ?_) (fun _=> ?_) | apply qt | refine qi (fun _=> ?_) (fun _=> ?_) | (refine atReg 2 rfl ?_;refine Or.inl (Exists.intro (4) ?_)) | refine And.intro rfl ?_ | apply qE | apply qO | exact True.intro | apply qq | apply qs | refine qK (by kernel_rfl) ?_ | apply qr)
  all_goals try first | apply qz1 | apply qz2 | apply qz3 | apply qz4 | apply qz5 | apply qz6 | apply qz7 | apply qz8 | apply qz9 | apply qz0
  all_goals try simp only [take_one,take_one',set_one,take_all,qn1,rec_self,qn2,pair_eta,ETy.dflt,qn3,qn4,Int.reduceToNat,Int.reduceAdd,Int.reduceSub,Int.reduceNeg,Nat.reduceAdd,Nat.zero_add,fitB] at *
  all_goals rw [Bool.eq_iff_iff];simp only [triIn,vIn,Bool.and_eq_true,Bool.not_eq_true',Bool.or_eq_false_iff,decide_eq_false_iff_not,bne_iff_ne,Bool.false_eq_true,true_iff,iff_true,false_iff,iff_false];omega
def fitsC:List AV→Option Res:=con2 .arr3 i64E (fun t n=>some (none,none,.s (.bool (fitB t n))))
theorem fitsRow:FnRow Try.prog 57 fitsC:=⟨con2_ok fun t n r h=>by cases h;exact fn_by (rulesF (fn:=[]) (fr:=[]) trivial trivial) Try.func57 (by kernel_rfl) fun _ _=>fits_vc t n,_,Try.func57,by kernel_rfl,by kernel_rfl⟩
theorem fits1_vc (t:P3) (n:Int) (l:List P3):afun ⟨tyL,[(57,fitsC)],[]⟩ Try.f56 [ETy.arr3.av t,(ETy.pt soupE).av (some (n,l))] (fun r=>r= .s (.bool (!fitB t n))):=by
  repeat' (conv=>whnf
           first | done | refine qN (by first | rfl | omega | (simp only [i64ok] at *;omega)) ?_ | apply qH | refine qG fun _=> ?_ | apply qB | apply qa | apply qo | refine qe (fun _=> ?_) (fun _=> ?_) | refine qn (fun _=> ?_) (fun _=> ?_) | refine qd (fun _=> ?_) (fun _=> ?_) | apply qt | refine qi (fun _=> ?_) (fun _=> ?_) | refine And.intro rfl ?_ | apply qE | apply qO | exact True.intro | apply qq | apply qs | refine qK (by kernel_rfl) ?_ | apply qr)
  all_goals try first | apply qz1 | apply qz2 | apply qz3 | apply qz4 | apply qz5 | apply qz6 | apply qz7 | apply qz8 | apply qz9 | apply qz0
  all_goals try simp only [take_one,take_one',set_one,take_all,qn1,rec_self,qn2,pair_eta,ETy.dflt,qn3,qn4,Int.reduceToNat,Int.reduceAdd,Int.reduceSub,Int.reduceNeg,Nat.reduceAdd,Nat.zero_add,Option.getD_some] at *
def fits1C:List AV→Option Res:=con2 .arr3 (.pt soupE) (fun t o=>match o with | some s=>some (none,none,.s (.bool (!fitB t s.1))) | none=>none)
theorem fits1Row:FnRow Try.prog 56 fits1C:=⟨con2_ok fun t o r h=>by
  cases o with
  | none=>cases h
  | some s=>cases h;exact fn_by (rulesF (fn:=[(57,fitsC)]) (fr:=[]) ⟨fitsRow,trivial⟩ trivial) Try.func56 (by kernel_rfl) fun _ _=>fits1_vc t s.1 s.2,_,Try.func56,by kernel_rfl,by kernel_rfl⟩
attribute [local irreducible] fitB
def badF (n:Int):List P3→Nat→Int
  | [],_=> -1
  | t::r,i=>if fitB t n=false then (i:Int) else badF n r (i+1)
def loopBF (n:Int) (l:List P3):Spec Nat where
  inv x:=x≤l.length∧badF n l 0=badF n (l.drop x) x
  live x:=[(8,.s (.int .i64 x))]
  keep:=[0,1,7]
  heap _:=[]
  keepH:=[]
  mu x:=l.length - x
theorem drop_nowT {l:List P3} {x:Nat} (h:x<l.length):l.drop x=l.getD x (0,0,0)::l.drop (x+1):=by
  rw [List.drop_eq_getElem_cons h,List.getD_eq_getElem?_getD,List.getElem?_eq_getElem h];rfl
theorem badI_vc (l:List P3) (s:Int×List P3):afun ⟨tyL,[(56,fits1C)],[]⟩ Try.f77 [(ETy.sl .arr3).av l,.s (.clo 56 [⟨soupE,s⟩])] (fun r=>r= .s (.int .i64 (badF s.1 l 0))):=by
  repeat' (conv=>whnf
           first | done | refine qN (by first | rfl | omega | (simp only [i64ok] at *;omega)) ?_ | apply qH | refine qG fun _=> ?_ | apply qB | apply qa | apply qo | refine qe (fun _=> ?_) (fun _=> ?_) | refine qn (fun _=> ?_) (fun _=> ?_) | refine qd (fun _=> ?_) (fun _=> ?_) | apply qt | refine qi (fun _=> ?_) (fun _=> ?_) | (refine atReg 2 rfl ?_;refine Or.inr (Exists.intro (Nat) (Exists.intro (loopBF s.1 l) (And.intro (Exists.intro (0) (And.intro (Hold.out ?_) (And.intro ?_ (And.intro ?_ rfl)))) (fun x hx=> ?_))))) | ((with_reducible show (∃ y,And (Spec.inv (loopBF _ _) y) _));refine Exists.intro (x+1) (And.intro (Hold.out ?_) (And.intro (And.intro ?_ (And.intro ?_ rfl)) (Hold.out ?_)))) | refine And.intro rfl ?_ | apply qE | apply qO | exact True.intro | apply qq | apply qs | refine qK (by kernel_rfl) ?_ | apply qr)
  all_goals try first | apply qz1 | apply qz2 | apply qz3 | apply qz4 | apply qz5 | apply qz6 | apply qz7 | apply qz8 | apply qz9 | apply qz0
  all_goals try simp only [take_one,take_one',set_one,take_all,qn1,rec_self,qn2,pair_eta,ETy.dflt,qn3,qn4,Int.reduceToNat,Int.reduceAdd,Int.reduceSub,Int.reduceNeg,Nat.reduceAdd,Nat.zero_add,loopBF] at *
  all_goals try (refine Hold.intro ?_;omega)
  · exact Hold.intro ⟨Nat.zero_le _,rfl⟩
  · rename_i h1 h2
    exact Hold.intro ⟨by omega,by rw [hx.2,drop_nowT (by omega),badF,if_neg (by rw [h2];simp)]⟩
  · rename_i h1 h2
    rw [hx.2,drop_nowT (by omega),badF,if_pos h2]
  · rw [hx.2,List.drop_eq_nil_of_le (by omega)];rfl
def badIC:List AV→Option Res
  | [.s (.sl .arr3 l),.s (.clo f [⟨.pair (.int .i64) (.sl .arr3),s⟩])]=>match Nat.beq f 56 with
    | true=>some (none,none,.s (.int .i64 (badF s.1 l 0)))
    | false=>none
  | _=>none
theorem badIRow:FnRow Try.prog 77 badIC:=⟨fun args r h=>by
  unfold badIC at h
  split at h
  case h_2=>cases h
  split at h
  case h_2=>cases h
  rename_i he
  cases h
  rw [Nat.eq_of_beq_eq_true he]
  exact fn_by (rulesF (fn:=[(56,fits1C)]) (fr:=[]) ⟨fits1Row,trivial⟩ trivial) Try.func77 (by kernel_rfl) fun _ _=>badI_vc _ _,_,Try.func77,by kernel_rfl,by kernel_rfl⟩
theorem badC_vc (l:List P3) (s:Int×List P3):afun ⟨tyL,[(77,badIC)],[]⟩ Try.f55 [(ETy.sl .arr3).av l,.s (.clo 56 [⟨soupE,s⟩])] (fun r=>r= .s (.bool (decide (badF s.1 l 0≥0)))):=by
  repeat' (conv=>whnf
           first | done | refine qN (by first | rfl | omega | (simp only [i64ok] at *;omega)) ?_ | apply qH | refine qG fun _=> ?_ | apply qB | apply qa | apply qo | refine qe (fun _=> ?_) (fun _=> ?_) | refine qn (fun _=> ?_) (fun _=> ?_) | refine qd (fun _=> ?_) (fun _=> ?_) | apply qt | refine qi (fun _=> ?_) (fun _=> ?_) | refine And.intro rfl ?_ | apply qE | apply qO | exact True.intro | apply qq | apply qs | refine qK (by kernel_rfl) ?_ | apply qr)
  all_goals try first | apply qz1 | apply qz2 | apply qz3 | apply qz4 | apply qz5 | apply qz6 | apply qz7 | apply qz8 | apply qz9 | apply qz0
  all_goals try simp only [take_one,take_one',set_one,take_all,qn1,rec_self,qn2,pair_eta,ETy.dflt,qn3,qn4,Int.reduceToNat,Int.reduceAdd,Int.reduceSub,Int.reduceNeg,Nat.reduceAdd,Nat.zero_add] at *
def badCC:List AV→Option Res
  | [.s (.sl .arr3 l),.s (.clo f [⟨.pair (.int .i64) (.sl .arr3),s⟩])]=>match Nat.beq f 56 with
    | true=>some (none,none,.s (.bool (decide (badF s.1 l 0≥0))))
    | false=>none
  | _=>none
theorem badCRow:FnRow Try.prog 55 badCC:=⟨fun args r h=>by
  unfold badCC at h
  split at h
  case h_2=>cases h
  split at h
  case h_2=>cases h
  rename_i he
  cases h
  rw [Nat.eq_of_beq_eq_true he]
  exact fn_by (rulesF (fn:=[(77,badIC)]) (fr:=[]) ⟨badIRow,trivial⟩ trivial) Try.func55 (by kernel_rfl) fun _ _=>badC_vc _ _,_,Try.func55,by kernel_rfl,by kernel_rfl⟩
def soupFit (s:Int×List P3):Bool:= !(decide (s.1<0)|| (decide (s.1>4096)|| (decide ((s.2.length:Int)>8192)|| decide (badF s.1 s.2 0≥0))))
theorem sfit_vc (n:Int) (l:List P3):afun ⟨tyL,[(55,badCC)],[]⟩ Try.f30 [soupE.av (n,l)] (fun r=>r= .s (.bool (soupFit (n,l)))):=by
  repeat' (conv=>whnf
           first | done | refine qN (by first | rfl | omega | (simp only [i64ok] at *;omega)) ?_ | apply qH | refine qG fun _=> ?_ | apply qB | apply qa | apply qo | refine qe (fun _=> ?_) (fun _=> ?_) | refine qn (fun _=> ?_) (fun _=> ?_) | refine qd (fun _=> ?_) (fun _=> ?_) | apply qt | refine qi (fun _=> ?_) (fun _=> ?_) | refine And.intro rfl ?_ | apply qE | apply qO | exact True.intro | apply qq | apply qs | refine qK (by kernel_rfl) ?_ | apply qr)
  all_goals try first | apply qz1 | apply qz2 | apply qz3 | apply qz4 | apply qz5 | apply qz6 | apply qz7 | apply qz8 | apply qz9 | apply qz0
  all_goals try simp only [take_one,take_one',set_one,take_all,qn1,rec_self,qn2,pair_eta,ETy.dflt,qn3,qn4,Int.reduceToNat,Int.reduceAdd,Int.reduceSub,Int.reduceNeg,Nat.reduceAdd,Nat.zero_add,soupFit] at *
  all_goals simp [*]
def sfitC:List AV→Option Res:=con1 soupE (fun s=>some (none,none,.s (.bool (soupFit s))))
theorem sfitRow:FnRow Try.prog 30 sfitC:=⟨con1_ok fun s r h=>by cases h;exact fn_by (rulesF (fn:=[(55,badCC)]) (fr:=[]) ⟨badCRow,trivial⟩ trivial) Try.func30 (by kernel_rfl) fun _ _=>sfit_vc s.1 s.2,_,Try.func30,by kernel_rfl,by kernel_rfl⟩
theorem badF_no (n:Int): ∀ (l:List P3) (i:Nat),(∀ t∈l,fitB t n=true)→badF n l i= -1
  | [],_,_=>rfl
  | t::r,i,h=>by
    unfold badF
    rw [if_neg (by rw [h t (List.mem_cons_self ..)];simp)]
    exact badF_no n r (i+1) fun u hu=>h u (List.mem_cons_of_mem _ hu)
end S1
open Go Go.Vm Go.Proofs
namespace S1
theorem mirF_vc {fn} (t:P3):afun ⟨tyL,fn,[]⟩ Try.f50 [ETy.arr3.av t] (fun r=>r=ETy.arr3.av (mirT t)):=by
  repeat' (conv=>whnf
           first | done | refine qN (by first | rfl | omega | (simp only [i64ok] at *;omega)) ?_ | apply qH | refine qG fun _=> ?_ | apply qB | apply qa | apply qo | refine qe (fun _=> ?_) (fun _=> ?_) | refine qn (fun _=> ?_) (fun _=> ?_) | refine qd (fun _=> ?_) (fun _=> ?_) | apply qt | refine qi (fun _=> ?_) (fun _=> ?_) | refine And.intro rfl ?_ | apply qE | apply qO | exact True.intro | apply qq | apply qs | refine qK (by kernel_rfl) ?_ | apply qr)
  all_goals try first | apply qz1 | apply qz2 | apply qz3 | apply qz4 | apply qz5 | apply qz6 | apply qz7 | apply qz8 | apply qz9 | apply qz0
  all_goals try simp only [take_one,take_one',set_one,take_all,qn1,rec_self,qn2,pair_eta,ETy.dflt,qn3,qn4,Int.reduceToNat,Int.reduceAdd,Int.reduceSub,Int.reduceNeg,Nat.reduceAdd,Nat.zero_add] at *
  all_goals exact HoldEq.intro rfl
def mirFC:List AV→Option Res:=con1 .arr3 (fun t=>some (none,none,ETy.arr3.av (mirT t)))
theorem mirFRow:FnRow Try.prog 50 mirFC:=⟨con1_ok fun t r h=>by
  cases h;exact fn_by (rulesF (fn:=[]) (fr:=[]) trivial trivial) Try.func50 (by kernel_rfl) fun _ _=>mirF_vc t,_,Try.func50,by kernel_rfl,by kernel_rfl⟩
def nameT (to:List Int) (t:P3):Prop:=(0≤t.1∧t.1<(to.length:Int))∧(0≤t.2.1∧t.2.1<(to.length:Int))∧(0≤t.2.2∧t.2.2<(to.length:Int))
theorem name1_vc {fn} (t:P3) (to:List Int) (h:nameT to t):afun ⟨tyL,fn,[]⟩ Try.f51 [ETy.arr3.av t,(ETy.pt (.sl i64E)).av (some to)] (fun r=>r=ETy.arr3.av (mapT (nameF to) t)):=by
  obtain ⟨h1,h2,h3⟩:=h
  repeat' (conv=>whnf
           first | done | refine qN (by first | rfl | omega | (simp only [i64ok] at *;omega)) ?_ | apply qH | refine qG fun _=> ?_ | apply qB | apply qa | apply qo | refine qe (fun _=> ?_) (fun _=> ?_) | refine qn (fun _=> ?_) (fun _=> ?_) | refine qd (fun _=> ?_) (fun _=> ?_) | apply qt | refine qi (fun _=> ?_) (fun _=> ?_) | refine And.intro rfl ?_ | apply qE | apply qO | exact True.intro | apply qq | apply qs | refine qK (by kernel_rfl) ?_ | apply qr)
  all_goals try first | apply qz1 | apply qz2 | apply qz3 | apply qz4 | apply qz5 | apply qz6 | apply qz7 | apply qz8 | apply qz9 | apply qz0
  all_goals try simp only [take_one,take_one',set_one,take_all,qn1,rec_self,qn2,pair_eta,ETy.dflt,qn3,qn4,Int.reduceToNat,Int.reduceAdd,Int.reduceSub,Int.reduceNeg,Nat.reduceAdd,Nat.zero_add,Option.getD_some] at *
  all_goals first
    | exact Hold.intro h1
    | exact Hold.intro h2
    | exact Hold.intro h3
    | exact HoldEq.intro rfl
def nameFC:List AV→Option Res:=con2 .arr3 (.pt (.sl i64E)) (fun t o=>match o with | some to=>some (none,some (nameT to t),ETy.arr3.av (mapT (nameF to) t)) | none=>none)
theorem nameFRow:FnRow Try.prog 51 nameFC:=⟨con2_ok fun t o r h=>by
  cases o with
  | none=>cases h
  | some to=>cases h;exact fn_by (rulesF (fn:=[]) (fr:=[]) trivial trivial) Try.func51 (by kernel_rfl) fun _ h=>name1_vc t to h,_,Try.func51,by kernel_rfl,by kernel_rfl⟩
def mpL (f:P3→P3) (l:List P3) (i:Nat):List P3:=(l.take i).map f
theorem mpL_0 (f:P3→P3) (l:List P3):mpL f l 0=[]:=rfl
theorem mpL_s {f:P3→P3} {l:List P3} {i:Nat} (h:i<l.length):mpL f l (i+1)=mpL f l i++[f (l.getD i (0,0,0))]:=by
  unfold mpL
  rw [List.take_succ_eq_append_getElem h,List.map_append,List.getD_eq_getElem?_getD,List.getElem?_eq_getElem h];rfl
theorem mpL_len {f:P3→P3} {l:List P3} {i:Nat} (h:i≤l.length):(mpL f l i).length=i:=by unfold mpL;rw [List.length_map,List.length_take];omega
theorem mpL_all (f:P3→P3) (l:List P3):mpL f l l.length=l.map f:=by unfold mpL;rw [List.take_length]
def loopEa (n:Int) (f:P3→P3) (l:List P3):Spec Nat where
  inv i:=i≤l.length
  live i:=[(14,.s (.int .i64 i))]
  keep:=[1,2,4,5,12,13]
  heap i:=[(2,.flat 24 [.int .i64 n,.own 3 0 (mpL f l i).length]),(3,.row .arr3 40 (mpL f l i))]
  keepH:=[0,1]
  mu i:=l.length - i
  nils:=[2]
attribute [local irreducible] mirT nameF mpL mapT
theorem eachM_vc (n:Int) (l:List P3) (hl:l.length≤100000):afun ⟨tyL,[(50,mirFC)],[]⟩ Try.f49 [soupE.av (n,l),.s (.val (.func (.func 50) #[] #[]))] (fun r=>r=soupE.av (n,mpL mirT l l.length)):=by
  repeat' (conv=>whnf
           first | done | refine qN (by first | rfl | omega | (simp only [i64ok] at *;omega)) ?_ | apply qH | refine qG fun _=> ?_ | apply qB | apply qa | apply qo | refine qe (fun _=> ?_) (fun _=> ?_) | refine qn (fun _=> ?_) (fun _=> ?_) | refine qd (fun _=> ?_) (fun _=> ?_) | apply qt | refine qi (fun _=> ?_) (fun _=> ?_) | (refine atReg 3 rfl ?_;refine Or.inr (Exists.intro (Nat) (Exists.intro (loopEa n mirT l) (And.intro (Exists.intro (0) (And.intro (Hold.out ?_) (And.intro ?_ (And.intro ?_ rfl)))) (fun i hi=> ?_))))) | ((with_reducible show (∃ y,And (Spec.inv (loopEa _ _ _) y) _));refine Exists.intro (i+1) (And.intro (Hold.out ?_) (And.intro (And.intro ?_ (And.intro ?_ rfl)) (Hold.out ?_)))) | refine And.intro rfl ?_ | apply qE | apply qO | exact True.intro | apply qq | apply qs | refine qK (by kernel_rfl) ?_ | apply qr)
  all_goals try first | apply qz1 | apply qz2 | apply qz3 | apply qz4 | apply qz5 | apply qz6 | apply qz7 | apply qz8 | apply qz9 | apply qz0
  all_goals try simp only [take_one,take_one',set_one,take_all,qn1,rec_self,qn2,pair_eta,ETy.dflt,qn3,qn4,Int.reduceToNat,Int.reduceAdd,Int.reduceSub,Int.reduceNeg,Nat.reduceAdd,Nat.zero_add,loopEa] at *
  all_goals first
    | (rw [mpL_0];done)
    | (rw [mpL_0];exact HoldOb.intro rfl)
    | (rw [mpL_s (by omega)];done)
    | (rw [mpL_len (by omega),mpL_len (by omega)];exact HoldOb.intro rfl)
    | (refine Hold.intro ?_;omega)
    | (refine Hold.intro ?_;unfold i64ok;omega)
    | (refine Hold.intro ?_;rw [mpL_len (by omega)];omega)
    | (have e:i=l.length:=by omega
       subst e;exact HoldEq.intro rfl)
def eachMC:List AV→Option Res
  | [.agg [.int .i64 n,.sl .arr3 l],.s (.val (.func (.func f) ⟨[]⟩ ⟨[]⟩))]=>match Nat.beq f 50 with
    | true=>some (none,some (l.length≤100000),soupE.av (n,mpL mirT l l.length))
    | false=>none
  | _=>none
theorem eachMRow:FnRow Try.prog 49 eachMC:=⟨fun args r h=>by
  unfold eachMC at h
  split at h
  case h_2=>cases h
  split at h
  case h_2=>cases h
  rename_i he
  cases h
  rw [Nat.eq_of_beq_eq_true he]
  exact fn_by (rulesF (fn:=[(50,mirFC)]) (fr:=[]) ⟨mirFRow,trivial⟩ trivial) Try.func49 (by kernel_rfl) fun _ h=>eachM_vc _ _ h,_,Try.func49,by kernel_rfl,by kernel_rfl⟩
theorem mirS_vc (n:Int) (l:List P3) (hl:l.length≤100000):afun ⟨tyL,[(49,eachMC)],[]⟩ Try.f25 [soupE.av (n,l)] (fun r=>r=soupE.av (n,mpL mirT l l.length)):=by
  repeat' (conv=>whnf
           first | done | refine qN (by first | rfl | omega | (simp only [i64ok] at *;omega)) ?_ | apply qH | refine qG fun _=> ?_ | apply qB | apply qa | apply qo | refine qe (fun _=> ?_) (fun _=> ?_) | refine qn (fun _=> ?_) (fun _=> ?_) | refine qd (fun _=> ?_) (fun _=> ?_) | apply qt | refine qi (fun _=> ?_) (fun _=> ?_) | refine And.intro rfl ?_ | apply qE | apply qO | exact True.intro | apply qq | apply qs | refine qK (by kernel_rfl) ?_ | apply qr)
  all_goals try first | apply qz1 | apply qz2 | apply qz3 | apply qz4 | apply qz5 | apply qz6 | apply qz7 | apply qz8 | apply qz9 | apply qz0
  all_goals try simp only [take_one,take_one',set_one,take_all,qn1,rec_self,qn2,pair_eta,ETy.dflt,qn3,qn4,Int.reduceToNat,Int.reduceAdd,Int.reduceSub,Int.reduceNeg,Nat.reduceAdd,Nat.zero_add] at *
  all_goals first
    | exact Hold.intro hl
    | exact HoldEq.intro rfl
def mirSC:List AV→Option Res:=con1 soupE (fun s=>some (none,some (s.2.length≤100000),soupE.av (s.1,s.2.map mirT)))
theorem mirSRow:FnRow Try.prog 25 mirSC:=⟨con1_ok fun s r h=>by
  cases h
  rw [← mpL_all mirT s.2]
  exact fn_by (rulesF (fn:=[(49,eachMC)]) (fr:=[]) ⟨eachMRow,trivial⟩ trivial) Try.func25 (by kernel_rfl) fun _ h=>mirS_vc s.1 s.2 h,_,Try.func25,by kernel_rfl,by kernel_rfl⟩
theorem eachR_vc (n:Int) (l:List P3) (to:List Int) (h:l.length≤100000∧∀ i,i<l.length→nameT to (l.getD i (0,0,0))):afun ⟨tyL,[(51,nameFC)],[]⟩ Try.f49 [soupE.av (n,l),.s (.clo 51 [⟨.sl i64E,to⟩])] (fun r=>r=soupE.av (n,mpL (mapT (nameF to)) l l.length)):=by
  have hl:=h.1
  repeat' (conv=>whnf
           first | done | refine qN (by first | rfl | omega | (simp only [i64ok] at *;omega)) ?_ | apply qH | refine qG fun _=> ?_ | apply qB | apply qa | apply qo | refine qe (fun _=> ?_) (fun _=> ?_) | refine qn (fun _=> ?_) (fun _=> ?_) | refine qd (fun _=> ?_) (fun _=> ?_) | apply qt | refine qi (fun _=> ?_) (fun _=> ?_) | (refine atReg 3 rfl ?_;refine Or.inr (Exists.intro (Nat) (Exists.intro (loopEa n (mapT (nameF to)) l) (And.intro (Exists.intro (0) (And.intro (Hold.out ?_) (And.intro ?_ (And.intro ?_ rfl)))) (fun i hi=> ?_))))) | ((with_reducible show (∃ y,And (Spec.inv (loopEa _ _ _) y) _));refine Exists.intro (i+1) (And.intro (Hold.out ?_) (And.intro (And.intro ?_ (And.intro ?_ rfl)) (Hold.out ?_)))) | refine And.intro rfl ?_ | apply qE | apply qO | exact True.intro | apply qq | apply qs | refine qK (by kernel_rfl) ?_ | apply qr)
  all_goals try first | apply qz1 | apply qz2 | apply qz3 | apply qz4 | apply qz5 | apply qz6 | apply qz7 | apply qz8 | apply qz9 | apply qz0
  all_goals try simp only [take_one,take_one',set_one,take_all,qn1,rec_self,qn2,pair_eta,ETy.dflt,qn3,qn4,Int.reduceToNat,Int.reduceAdd,Int.reduceSub,Int.reduceNeg,Nat.reduceAdd,Nat.zero_add,loopEa] at *
  all_goals try exact Hold.intro (h.2 i (by omega))
  all_goals first
    | (rw [mpL_0];done)
    | (rw [mpL_0];exact HoldOb.intro rfl)
    | (rw [mpL_s (by omega)];done)
    | (rw [mpL_len (by omega),mpL_len (by omega)];exact HoldOb.intro rfl)
    | (refine Hold.intro ?_;omega)
    | (refine Hold.intro ?_;unfold i64ok;omega)
    | (refine Hold.intro ?_;rw [mpL_len (by omega)];omega)
    | (have e:i=l.length:=by omega
       subst e;exact HoldEq.intro rfl)
def eachRC:List AV→Option Res
  | [.agg [.int .i64 n,.sl .arr3 l],.s (.clo f [⟨.sl (.int .i64),to⟩])]=>match Nat.beq f 51 with
    | true=>some (none,some (l.length≤100000∧∀ i,i<l.length→nameT to (l.getD i (0,0,0))),soupE.av (n,mpL (mapT (nameF to)) l l.length))
    | false=>none
  | _=>none
theorem eachRRow:FnRow Try.prog 49 eachRC:=⟨fun args r h=>by
  unfold eachRC at h
  split at h
  case h_2=>cases h
  split at h
  case h_2=>cases h
  rename_i he
  cases h
  rw [Nat.eq_of_beq_eq_true he]
  exact fn_by (rulesF (fn:=[(51,nameFC)]) (fr:=[]) ⟨nameFRow,trivial⟩ trivial) Try.func49 (by kernel_rfl) fun _ h=>eachR_vc _ _ _ h,_,Try.func49,by kernel_rfl,by kernel_rfl⟩
def seenL (n:Int) (to:List Int) (i:Nat):List Bool:=irec (fun s k=>s.set (to.getD k 0).toNat true) (List.replicate n.toNat false) i
theorem seenL_0 (n:Int) (to:List Int):seenL n to 0=List.replicate n.toNat false:=rfl
theorem seenL_s (n:Int) (to:List Int) (i:Nat):seenL n to (i+1)=(seenL n to i).set (to.getD i 0).toNat true:=rfl
theorem seenL_len (n:Int) (to:List Int): ∀ i,(seenL n to i).length=n.toNat
  | 0=>by rw [seenL_0,List.length_replicate]
  | i+1=>by rw [seenL_s,List.length_set,seenL_len n to i]
def PermK (n:Int) (to:List Int) (i:Nat):Prop:=(∀ k,k<i→InN n (to.getD k 0))∧(∀ k j,k<i→j<i→to.getD k 0=to.getD j 0→k=j)∧∀ v:Nat,(seenL n to i).getD v false=true↔∃ k,k<i∧(to.getD k 0).toNat=v
theorem permK_0 (n:Int) (to:List Int):PermK n to 0:=⟨fun _ h=>absurd h (Nat.not_lt_zero _),fun _ _ h=>absurd h (Nat.not_lt_zero _),fun v=>by
  rw [seenL_0]
  constructor
  · intro h
    rw [List.getD_eq_getElem?_getD,List.getElem?_replicate] at h
    split at h<;>cases h
  · rintro ⟨k,h,_⟩;exact absurd h (Nat.not_lt_zero _)⟩
theorem getD_setB2 (l:List Bool) (i j:Nat) (hi:i<l.length):(l.set i true).getD j false=if i=j then true else l.getD j false:=by
  rw [List.getD_eq_getElem?_getD,List.getD_eq_getElem?_getD,List.getElem?_set]
  by_cases e:i=j
  · rw [if_pos e,if_pos e,if_pos hi];rfl
  · rw [if_neg e,if_neg e]
theorem permK_s {n:Int} {to:List Int} {i:Nat} (h:PermK n to i) (h1:InN n (to.getD i 0)) (h2:(seenL n to i).getD (to.getD i 0).toNat false=false):PermK n to (i+1):=by
  obtain ⟨a,b,c⟩:=h
  unfold InN at *
  have hl:=seenL_len n to i
  have new: ∀ k,k<i→to.getD k 0≠to.getD i 0:=fun k hk e=>by
    have:=(c (to.getD i 0).toNat).2 ⟨k,hk,by rw [e]⟩
    rw [h2] at this;cases this
  refine ⟨fun k hk=> ?_,fun k j hk hj e=> ?_,fun v=> ?_⟩
  · by_cases e:k=i
    · subst e;exact h1
    · exact a k (by omega)
  · by_cases e1:k=i<;>by_cases e2:j=i
    · omega
    · subst e1;exact absurd e.symm (new j (by omega))
    · subst e2;exact absurd e (new k (by omega))
    · exact b k j (by omega) (by omega) e
  · rw [seenL_s,getD_setB2 _ _ _ (by omega)]
    by_cases e:(to.getD i 0).toNat=v
    · rw [if_pos e];exact ⟨fun _=>⟨i,Nat.lt_succ_self _,e⟩,fun _=>rfl⟩
    · rw [if_neg e,c v]
      constructor
      · rintro ⟨k,hk,ek⟩;exact ⟨k,by omega,ek⟩
      · rintro ⟨k,hk,ek⟩
        by_cases e3:k=i
        · subst e3;exact absurd ek e
        · exact ⟨k,by omega,ek⟩
theorem permK_all {n:Int} {to:List Int} (h:PermK n to to.length) (hl:(to.length:Int)=n):Perm n to:=by
  obtain ⟨a,b,_⟩:=h
  have gd: ∀ (i:Nat) (hi:i<to.length),to.getD i 0=to[i]:=fun i hi=>by rw [List.getD_eq_getElem?_getD,List.getElem?_eq_getElem hi];rfl
  refine ⟨hl,fun x hx=> ?_,List.pairwise_iff_getElem.2 fun i j hi hj hij e=> ?_⟩
  · obtain ⟨i,hi,e⟩:=List.mem_iff_getElem.1 hx
    rw [← e,← gd i hi];exact a i hi
  · have:=b i j hi hj (by rw [gd i hi,gd j hj];exact e)
    omega
theorem perm_K {n:Int} {to:List Int} (h:Perm n to) {i:Nat} (hi:i<to.length):InN n (to.getD i 0)∧∀ k,k<i→to.getD k 0≠to.getD i 0:=by
  obtain ⟨_,h2,h3⟩:=h
  have gd: ∀ (i:Nat) (hi:i<to.length),to.getD i 0=to[i]:=fun i hi=>by rw [List.getD_eq_getElem?_getD,List.getElem?_eq_getElem hi];rfl
  refine ⟨by rw [gd i hi];exact h2 _ (List.getElem_mem hi),fun k hk e=> ?_⟩
  rw [gd i hi,gd k (by omega)] at e
  exact List.pairwise_iff_getElem.1 h3 k i (by omega) hi hk e
def loopRn (n:Int) (to:List Int):Spec Nat where
  inv i:=i≤to.length∧PermK n to i
  live i:=[(18,.s (.int .i64 i))]
  keep:=[2,3,4,6,16,17]
  heap i:=[(3,.row .bool 4 (seenL n to i))]
  keepH:=[0,1,2]
  mu i:=to.length - i
attribute [local irreducible] seenL soupFit
theorem sfit_of {s:Int×List P3} (h:Surf s):soupFit s=true:=by
  have hf:=h.fit
  have hb:badF s.1 s.2 0= -1:=badF_no _ _ _ fun t ht=>by
    obtain ⟨i,hi,e⟩:=mem_tg ht
    have h1:=hf.2.2.2 i hi
    have h2:=h.deg i hi
    have e2:s.2.getD i (0,0,0)=t:=e
    rw [e2] at h1
    rw [e] at h2
    unfold dgn at h2
    unfold fitB
    rw [h1]
    simp only [Bool.true_and,Bool.and_eq_true,bne_iff_ne]
    exact ⟨fun k=>h2 (.inl k),fun k=>h2 (.inr (.inl k)),fun k=>h2 (.inr (.inr k))⟩
  unfold soupFit
  have h1:=hf.1;have h2:=hf.2.1;have h3:=hf.2.2.1
  rw [hb,decide_eq_false (by omega),decide_eq_false (by omega),decide_eq_false (by omega),decide_eq_false (by omega)];rfl
theorem surf_nameT {n:Int} {l:List P3} {to:List Int} (h:Surf (n,l)) (hl:(to.length:Int)=n) {i:Nat} (hi:i<l.length):nameT to (l.getD i (0,0,0)):=by
  have hm:=(surfM_of h).ent (l.getD i (0,0,0)) (tg_mem hi)
  have h1:=hm (l.getD i (0,0,0)).1 (by unfold hasV;simp)
  have h2:=hm (l.getD i (0,0,0)).2.1 (by unfold hasV;simp)
  have h3:=hm (l.getD i (0,0,0)).2.2 (by unfold hasV;simp)
  unfold InN at h1 h2 h3
  simp only at h1 h2 h3
  unfold nameT
  rw [hl]
  exact ⟨h1,h2,h3⟩
theorem perm_seen {n:Int} {to:List Int} (hp:Perm n to) {i:Nat} (hi:i<to.length) (hk:PermK n to i):(seenL n to i).getD (to.getD i 0).toNat false≠true:=fun h=>by
  obtain ⟨k,hk1,hk2⟩:=(hk.2.2 _).1 h
  have h1:=perm_K hp hi
  have h3:=(perm_K hp (i:=k) (by omega)).1
  have h4:=h1.2 k hk1
  have h5:=h1.1
  unfold InN at h3 h5
  omega
theorem renY_vc (n:Int) (l:List P3) (to:List Int) (hs:Surf (n,l)) (hp:Perm n to):afun ⟨tyL,[(30,sfitC),(49,eachRC)],[]⟩ Try.f26 [soupE.av (n,l),(ETy.sl i64E).av to] (fun r=>r= .tup [soupE.av (n,mpL (mapT (nameF to)) l l.length),.s (.int .i64 0)]):=by
  have h0:0≤n:=hs.fit.1
  have h1:n≤4096:=hs.fit.2.1
  have h2:l.length≤8192:=hs.fit.2.2.1
  have hpl:(to.length:Int)=n:=hp.1
  repeat' (conv=>whnf
           first | done | refine qN (by first | rfl | omega | (simp only [i64ok] at *;omega)) ?_ | apply qH | refine qG fun _=> ?_ | apply qB | apply qa | apply qo | refine qe (fun _=> ?_) (fun _=> ?_) | refine qn (fun _=> ?_) (fun _=> ?_) | refine qd (fun _=> ?_) (fun _=> ?_) | apply qt | refine qi (fun _=> ?_) (fun _=> ?_) | (refine atReg 5 rfl ?_;refine Or.inr (Exists.intro (Nat) (Exists.intro (loopRn n to) (And.intro (Exists.intro (0) (And.intro (Hold.out ?_) (And.intro ?_ (And.intro ?_ rfl)))) (fun i hi=> ?_))))) | ((with_reducible show (∃ y,And (Spec.inv (loopRn _ _) y) _));refine Exists.intro (i+1) (And.intro (Hold.out ?_) (And.intro (And.intro ?_ (And.intro ?_ rfl)) (Hold.out ?_)))) | refine And.intro rfl ?_ | apply qE | apply qO | exact True.intro | apply qq | apply qs | refine qK (by kernel_rfl) ?_ | apply qr)
  all_goals try first | apply qz1 | apply qz2 | apply qz3 | apply qz4 | apply qz5 | apply qz6 | apply qz7 | apply qz8 | apply qz9 | apply qz0
  all_goals try simp only [take_one,take_one',set_one,take_all,qn1,rec_self,qn2,pair_eta,ETy.dflt,qn3,qn4,Int.reduceToNat,Int.reduceAdd,Int.reduceSub,Int.reduceNeg,Nat.reduceAdd,Nat.zero_add,loopRn] at *
  all_goals try exact absurd (sfit_of hs) (by rw [show soupFit (n,l)=false by assumption];decide)
  all_goals first
    | exact seenL_0 n to
    | exact seenL_s n to i
    | exact HoldEq.intro rfl
    | exact Hold.intro ⟨h0,Int.le_refl _,by omega⟩
    | exact Hold.intro ⟨Nat.zero_le _,permK_0 n to⟩
    | exact Hold.intro ⟨by omega,fun i hi=>surf_nameT hs hpl hi⟩
    | (exfalso;exact absurd hpl (by assumption))
    | (have k:(i:Int)<to.length:=by assumption
       have q:=perm_K hp (i:=i) (by omega)
       have q1:=q.1
       unfold InN at q1
       first
         | (exfalso;omega)
         | (exfalso;exact perm_seen hp (by omega) hi.2 (by assumption))
         | exact Hold.intro ⟨by omega,permK_s hi.2 q.1 (by assumption)⟩
         | (refine Hold.intro ?_;omega))
theorem renN_vc (n:Int) (l:List P3) (to:List Int) (hs:Surf (n,l)) (hp: ¬ Perm n to):afun ⟨tyL,[(30,sfitC),(49,eachRC)],[]⟩ Try.f26 [soupE.av (n,l),(ETy.sl i64E).av to] (fun r=>r= .tup [.agg [.int .i64 0,.val (.slice none 0 0)],.s (.int .i64 3)]):=by
  have h0:0≤n:=hs.fit.1
  have h1:n≤4096:=hs.fit.2.1
  have h2:l.length≤8192:=hs.fit.2.2.1
  repeat' (conv=>whnf
           first | done | refine qN (by first | rfl | omega | (simp only [i64ok] at *;omega)) ?_ | apply qH | refine qG fun _=> ?_ | apply qB | apply qa | apply qo | refine qe (fun _=> ?_) (fun _=> ?_) | refine qn (fun _=> ?_) (fun _=> ?_) | refine qd (fun _=> ?_) (fun _=> ?_) | apply qt | refine qi (fun _=> ?_) (fun _=> ?_) | (refine atReg 5 rfl ?_;refine Or.inr (Exists.intro (Nat) (Exists.intro (loopRn n to) (And.intro (Exists.intro (0) (And.intro (Hold.out ?_) (And.intro ?_ (And.intro ?_ rfl)))) (fun i hi=> ?_))))) | ((with_reducible show (∃ y,And (Spec.inv (loopRn _ _) y) _));refine Exists.intro (i+1) (And.intro (Hold.out ?_) (And.intro (And.intro ?_ (And.intro ?_ rfl)) (Hold.out ?_)))) | refine And.intro rfl ?_ | apply qE | apply qO | exact True.intro | apply qq | apply qs | refine qK (by kernel_rfl) ?_ | apply qr)
  all_goals try first | apply qz1 | apply qz2 | apply qz3 | apply qz4 | apply qz5 | apply qz6 | apply qz7 | apply qz8 | apply qz9 | apply qz0
  all_goals try simp only [take_one,take_one',set_one,take_all,qn1,rec_self,qn2,pair_eta,ETy.dflt,qn3,qn4,Int.reduceToNat,Int.reduceAdd,Int.reduceSub,Int.reduceNeg,Nat.reduceAdd,Nat.zero_add,loopRn] at *
  all_goals try exact absurd (sfit_of hs) (by rw [show soupFit (n,l)=false by assumption];decide)
  all_goals first
    | exact seenL_0 n to
    | exact seenL_s n to i
    | exact HoldEq.intro rfl
    | exact Hold.intro ⟨h0,Int.le_refl _,by omega⟩
    | exact Hold.intro ⟨Nat.zero_le _,permK_0 n to⟩
    | exact Hold.intro ⟨by omega,permK_s hi.2 ⟨by omega,by omega⟩ (by assumption)⟩
    | (refine Hold.intro ?_;omega)
    | (exfalso
       have e:i=to.length:=by omega
       subst e
       exact hp (permK_all hi.2 (by assumption)))
def renYC:List AV→Option Res:=con2 soupE (.sl i64E) (fun s to=>some (none,some (Surf s∧Perm s.1 to),.tup [soupE.av (s.1,s.2.map (mapT (nameF to))),.s (.int .i64 0)]))
theorem renYRow:FnRow Try.prog 26 renYC:=⟨con2_ok fun s to r h=>by
  cases h
  rw [← mpL_all (mapT (nameF to)) s.2]
  exact fn_by (rulesF (fn:=[(30,sfitC),(49,eachRC)]) (fr:=[]) ⟨sfitRow,eachRRow,trivial⟩ trivial) Try.func26 (by kernel_rfl) fun _ h=>renY_vc s.1 s.2 to h.1 h.2,_,Try.func26,by kernel_rfl,by kernel_rfl⟩
def renNC:List AV→Option Res:=con2 soupE (.sl i64E) (fun s to=>some (none,some (Surf s∧¬ Perm s.1 to),.tup [.agg [.int .i64 0,.val (.slice none 0 0)],.s (.int .i64 3)]))
theorem renNRow:FnRow Try.prog 26 renNC:=⟨con2_ok fun s to r h=>by
  cases h
  exact fn_by (rulesF (fn:=[(30,sfitC),(49,eachRC)]) (fr:=[]) ⟨sfitRow,eachRRow,trivial⟩ trivial) Try.func26 (by kernel_rfl) fun _ h=>renN_vc s.1 s.2 to h.1 h.2,_,Try.func26,by kernel_rfl,by kernel_rfl⟩
end S1
open Go Go.Vm Go.Proofs
namespace S1
theorem near_comm (x:tabE.T) (a b:Int):nearR x a b=nearR x b a:=by unfold nearR;exact Bool.or_comm _ _
theorem fac_len_comm (x:tabE.T) (a b:Int):(facR x a b).length=(facR x b a).length:=by
  unfold facR;rw [List.length_append,List.length_append];omega
theorem fac_mem_comm {x:tabE.T} {a b v:Int} :v∈facR x a b↔v∈facR x b a:=by
  unfold facR;rw [List.mem_append,List.mem_append];exact or_comm
theorem small_comm {x:tabE.T} (g:Full x) (hs:Surf x.1) {a b:Int} (h:nearR x a b=true):smallR x a=smallR x b:=by
  have hab:=near_in g.toGood h
  have ne:a≠b:=fun e=>by subst e;rw [near_self g.toGood] at h;cases h
  obtain ⟨t,ht,ta,tb⟩:=(near_has g ne).1 h
  obtain ⟨i,hi,ei⟩:=mem_tg ht
  have hm:=surfM_of hs
  have key: ∀ {v:Int},InN x.1.1 v→hasV t v→smM x v=(ofR x).getD i 0:=fun {v} hv tv=>by
    obtain ⟨c1,c2⟩:=g.vtx v hv.1 hv.2
    have c3:=cor_tri c1
    rw [c2] at c3
    unfold smM
    exact (shell_iff g c3.1 hi).2 (vert_lab g c3.1 hi c3.2 (by rw [ei];exact tv) hm)
  unfold smallR
  rw [key hab.1 ta,key hab.2 tb]
theorem why_comm {x:tabE.T} (g:Full x) (hs:Surf x.1) (a b:Int):whyR x a b=whyR x b a:=by
  cases h:nearR x a b with
  | false =>
    have h':nearR x b a=false:=by rw [near_comm];exact h
    rw [why_far h,why_far h']
  | true =>
    have h':nearR x b a=true:=by rw [near_comm];exact h
    have eL:whyL (facR x a b) (comR x a b)=whyL (facR x b a) (comR x b a):=by
      rw [Bool.eq_iff_iff,whyL_iff,whyL_iff]
      constructor
      · intro k v hv
        obtain ⟨c1,c2,c3⟩:=(com_mem g).1 hv
        exact fac_mem_comm.1 (k v ((com_mem g).2 ⟨c1.symm,c3,c2⟩))
      · intro k v hv
        obtain ⟨c1,c2,c3⟩:=(com_mem g).1 hv
        exact fac_mem_comm.1 (k v ((com_mem g).2 ⟨c1.symm,c3,c2⟩))
    unfold whyR
    rw [h,h',eL,small_comm g hs h,fac_len_comm x a b]
    have e2:((facR x b a).length=2∧innerR x a=false∧innerR x b=false)↔((facR x b a).length=2∧innerR x b=false∧innerR x a=false):=⟨fun k=>⟨k.1,k.2.2,k.2.1⟩,fun k=>⟨k.1,k.2.2,k.2.1⟩⟩
    simp only [e2]
end S1
open Go Go.Vm Go.Proofs
namespace S1
def aw1:Int×List P3:=(4,[(0,1,2),(0,2,3),(0,3,1),(1,3,2)])
def aw2:Int×List P3:=(4,[(0,1,2),(2,1,3)])
def whyW (x:tabE.T) (a b:Int) (l:List Int):Int :=
  if !nearR x a b then 1 else if (facR x a b).length=2∧innerR x a=false∧innerR x b=false then 2
  else if whyL (facR x a b) l=false then 3 else if smallR x a then 4 else 0
theorem whyW_is (x:tabE.T) (a b:Int):whyR x a b=whyW x a b (comR x a b):=rfl
theorem com_is {x:tabE.T} {a b:Int} {l0 l:List Int} (hne:a≠b) (hl:((linkR x a).filter fun v=>hasI v (linkR x b))=l0) (hp:l0.Perm l) (hs:l.Pairwise (·≤·)):comR x a b=l:=by
  unfold comR
  rw [if_neg hne,hl]
  exact sorted_eq ((sortI_perm _).trans hp) (sortI_sorted _) hs
theorem aw1_ok:(chkR' aw1).1=0:=by decide +kernel
theorem aw2_ok:(chkR' aw2).1=0:=by decide +kernel
theorem aw1_01:whyO (newO aw1) 0 1=4:=by
  rw [newO_ok aw1_ok]
  show whyR (newT aw1) 0 1=4
  rw [whyW_is,com_is (l0:=[2,3]) (l:=[2,3]) (by decide) (by decide +kernel) (.refl _) (by decide)]
  decide +kernel
theorem aw2_12:whyO (newO aw2) 1 2=2:=by
  rw [newO_ok aw2_ok]
  show whyR (newT aw2) 1 2=2
  rw [whyW_is,com_is (l0:=[3,0]) (l:=[0,3]) (by decide) (by decide +kernel) (.swap ..) (by decide)]
  decide +kernel
theorem aw2_01:whyO (newO aw2) 0 1=0:=by
  rw [newO_ok aw2_ok]
  show whyR (newT aw2) 0 1=0
  rw [whyW_is,com_is (l0:=[2]) (l:=[2]) (by decide) (by decide +kernel) (.refl _) (by decide)]
  decide +kernel
theorem aw2_c:comO (newO aw2) 0 3=[1,2]:=by
  rw [newO_ok aw2_ok]
  show comR (newT aw2) 0 3=[1,2]
  rw [com_is (l0:=[1,2]) (l:=[1,2]) (by decide) (by decide +kernel) (.refl _) (by decide)]
theorem aw2_03:whyO (newO aw2) 0 3=1:=by
  rw [newO_ok aw2_ok]
  show whyR (newT aw2) 0 3=1
  have:comR (newT aw2) 0 3=[1,2]:=by
    rw [com_is (l0:=[1,2]) (l:=[1,2]) (by decide) (by decide +kernel) (.refl _) (by decide)]
  rw [whyW_is,this]
  decide +kernel
attribute [local irreducible] newO whyO comO
theorem awake_vc:afun ⟨tyL,[(12,newC),(17,whyC),(18,mayC),(24,comC)],[]⟩ Try.f22 [] (fun r=>r= .s (.bool true)):=by
  have a1:=aw1_01
  have a2:=aw2_12
  have a3:=aw2_01
  have a4:=aw2_c
  have a5:=aw2_03
  repeat' (conv=>whnf
           first | done | refine qN (by first | rfl | omega | (simp only [i64ok] at *;omega)) ?_ | apply qH | refine qG fun _=> ?_ | apply qB | apply qa | apply qo | refine qe (fun _=> ?_) (fun _=> ?_) | refine qn (fun _=> ?_) (fun _=> ?_) | refine qd (fun _=> ?_) (fun _=> ?_) | apply qt | refine qi (fun _=> ?_) (fun _=> ?_) | refine And.intro rfl ?_ | apply qE | apply qO | exact True.intro | apply qq | apply qs | refine qK (by kernel_rfl) ?_ | apply qr)
  all_goals try first | apply qz1 | apply qz2 | apply qz3 | apply qz4 | apply qz5 | apply qz6 | apply qz7 | apply qz8 | apply qz9 | apply qz0
  all_goals try simp only [take_one,take_one',set_one,take_all,qn1,rec_self,qn2,pair_eta,ETy.dflt,qn3,qn4,Int.reduceToNat,Int.reduceAdd,Int.reduceSub,Int.reduceNeg,Nat.reduceAdd,Nat.zero_add] at *
  all_goals try have a1': ¬ whyO (newO aw1) 0 1=0:=by rw [a1];decide
  all_goals try have a4':((comO (newO aw2) 0 3).length:Int)=2:=by rw [a4];rfl
  all_goals try have a6:(comO (newO aw2) 0 3).getD 0 0=1:=by rw [a4];rfl
  all_goals try have a7:(comO (newO aw2) 0 3).getD 1 0=2:=by rw [a4];rfl
  all_goals first
    | exact Hold.intro newO_good
    | exact absurd a1 (by assumption)
    | exact absurd a2 (by assumption)
    | exact absurd a3 (by assumption)
    | exact absurd a4' (by assumption)
    | exact absurd a5 (by assumption)
    | exact absurd a6 (by assumption)
    | exact absurd a7 (by assumption)
    | exact absurd (by assumption) a1'
    | skip
  · show (decide ((comO (newO aw2) 0 3).getD 1 0=2))=true
    exact decide_eq_true a7
end S1
open Go Go.Vm Go.Proofs
namespace S1
def awake34C:List AV→Option Res
  | []=>some (none,none,.s (.bool true))
  | _=>none
theorem awake34Row:FnRow Try.prog 22 awake34C:=⟨fun args r h=>by
  cases args with
  | nil=>cases h;exact fn_by (rulesF (fn:=[(12,newC),(17,whyC),(18,mayC),(24,comC)]) (fr:=[]) ⟨newRow,whyRow,mayRow,comRow,trivial⟩ trivial) Try.func22 (by kernel_rfl) fun _ _=>awake_vc
  | cons a l=>(cases h),_,Try.func22,by kernel_rfl,by kernel_rfl⟩
end S1
open Go Go.Vm Go.Proofs
namespace S1
end S1
open Go Go.Vm Go.Proofs
namespace S1
theorem nil_av {σ:Sig} {β:Places} {v:Value} (h:VRep σ β ((ETy.pt tabE).av none) v):VRep σ β (nilO none) v:=by
  have h:[v]=[Value.pointer none]:=h
  exact ⟨(List.cons.inj h).1,by simp [Scal]⟩
theorem FnOk.res {P:Program} {f:FuncId} {args:List AV} {p q:Option Prop} {u u':AV} (h:FnOk P f args (p,q,u)) (hu: ∀ (σ:Sig) (v:Value),VRep σ [] u v→VRep σ [] u' v):FnOk P f args (p,q,u') :=
  fun σ vals w h1 h2=>⟨(h σ vals w h1 h2).1,fun hq=>((h σ vals w h1 h2).2 hq).mono fun _ _ ⟨v,σ',e1,e2,e3,e4,e5,e6⟩=>⟨v,σ',e1,e2,e3,e4,hu σ' v e5,e6⟩⟩
def newXC (x:tabE.T):List AV→Option Res:=con1 soupE (fun s=>some (none,some (newO s=some x),.tup [(ETy.pt tabE).av (some x),witE.av (0,0,0)]))
theorem newXRow (x:tabE.T):FnRow Try.prog 12 (newXC x):=⟨con1_ok fun s r h=>by
  cases h
  intro σ vals w hag hv
  refine ⟨trivial,fun hq=> ?_⟩
  have hq:newO s=some x:=hq
  have:=(newRow.1 _ _ (rfl:newC [soupE.av s]=_) σ vals w hag hv).2 trivial
  have hc:(chkR s).1=0:=by
    unfold newO at hq
    split at hq
    · assumption
    · cases hq
  rw [hq,chk_eq hc] at this
  exact this,_,Try.func12,by kernel_rfl,by kernel_rfl⟩
def newFC (N:Int×List P3→tabE.T):List AV→Option Res:=con1 soupE (fun s=>some (none,some (newO s=some (N s)),.tup [(ETy.pt tabE).av (some (N s)),witE.av (0,0,0)]))
theorem newFRow (N:Int×List P3→tabE.T):FnRow Try.prog 12 (newFC N):=⟨con1_ok fun s r h=>by
  cases h
  intro σ vals w hag hv
  refine ⟨trivial,fun hq=> ?_⟩
  have hq:newO s=some (N s):=hq
  exact ((newXRow (N s)).1 _ _ (rfl:newXC (N s) [soupE.av s]=_) σ vals w hag hv).2 hq,_,Try.func12,by kernel_rfl,by kernel_rfl⟩
end S1
