/- A part of the proofs of the laws. -/
import Derived.Test.YtahbknnehddjgaaGreatY4atoY5
import Derived.Test.YtahbknnehddjgaaGreatT5toT11
import Derived.Test.YtahbknnehddjgaaGreatF7toW5p
import Derived.Test.YtahbknnehddjgaaGreatT0toT2
set_option linter.unusedSimpArgs false
set_option linter.unusedVariables false
set_option maxHeartbeats 8000000
set_option maxRecDepth 100000
open Go Go.Vm Go.Proofs
namespace S1
theorem why_rng (x:tabE.T) (a b:Int):whyR x a b=0∨whyR x a b=1∨whyR x a b=2∨whyR x a b=3∨whyR x a b=4:=by
  unfold whyR
  (repeat' split)<;>simp
theorem doE_why {w:SoT} {a b:Int} (h:doE w a b=0):Surf w∧InN w.1 a∧InN w.1 b∧whyR (newT w) a b=0∧a≠b:=by
  have hs:Surf w:=by
    apply Classical.byContradiction
    intro k
    unfold doE at h
    rw [if_neg (fun e=>k ((is_surf w).1 e))] at h
    cases h
  rw [doE_surf hs] at h
  split at h
  case isFalse=>cases h
  rename_i hr
  have h0:whyR (newT w) a b=0:=by
    rcases why_rng (newT w) a b with e | e | e | e | e
    · exact e
    all_goals (rw [e] at h;exact absurd h (by decide))
  refine ⟨hs,hr.1,hr.2,h0,fun e=> ?_⟩
  subst e
  rw [why_far (near_self (new_of hs).2.1.toGood a)] at h0
  cases h0
open Classical in
noncomputable def undoR (s:SoT) (r:RecT):SoT×Int:=if h: ∃ w,doR w r.1 r.2.1=(s,r,0) then (Classical.choose h,0) else ((0,[]),if isR s=true then 3 else 11)
def bkV (r:SoT×Bool):AV:= .tup [soupE.av r.1,.s (.bool r.2)]
def bkW (s:SoT) (r:RecT):AV:=if bkC s r∧kF (bkG r) (bkN s r)≤s.2.length∧fanB (bkN s r) r.2.2.2.2=true then bkV (bkR s r) else .tup [.agg [.int .i64 0,.val (.slice none 0 0)],.s (.bool false)]
def gonP (r:RecT) (k:Nat):GoT:=gonM r.2.2.1 r.2.2.2.1 k
attribute [local irreducible] bkW gonP kF outB fanO bkG
end S1
open Go Go.Vm Go.Proofs
namespace S1
theorem fm_cnt {α:Type} (f:Nat→Option α) (l:List P3) (p:P3→Bool) (h: ∀ j,j<l.length→(f j).isSome=p (tg l j)): ∀ i,i≤l.length→((List.range i).filterMap f).length=((l.take i).filter p).length
  | 0,_=>rfl
  | i+1,hi=>by
    have ih:=fm_cnt f l p h i (by omega)
    have hj:=h i (by omega)
    have e:tg l i=l[i]'(by omega):=by unfold tg;rw [gdE,gE (by omega)];rfl
    rw [fm_succ,List.take_succ_eq_append_getElem (by omega),List.filter_append,List.length_append,List.length_append,ih]
    congr 1
    rw [e] at hj
    cases hf:f i with
    | none=>rw [hf] at hj;have hj:false=p l[i]:=hj;simp [List.filter_cons,← hj]
    | some y=>rw [hf] at hj;have hj:true=p l[i]:=hj;simp [List.filter_cons,← hj]
theorem both_bool (a b:Int) (t:P3):both a b t=(atV a t&&atV b t):=by unfold both atV;exact Bool.decide_and _ _
theorem at_cnt (a b:Int) (l:List P3):(atL a b l l.length).length=(l.filter (both a b)).length:=by
  have:=fm_cnt (atG a b l) l (both a b) (fun j _=>by unfold atG;cases h:both a b (tg l j)<;>simp) l.length (Nat.le_refl _)
  rw [List.take_length] at this;exact this
theorem fan_cnt (a b:Int) (l:List P3):(fanL a b l l.length).length=(l.filter fun t=>atV a t&& !both a b t).length:=by
  have:=fm_cnt (fanG a b l) l (fun t=>atV a t&& !both a b t) (fun j _=>by
    unfold fanG atV
    cases h:both a b (tg l j) with
    | true=>rw [if_pos rfl,Bool.not_true,Bool.and_false];rfl
    | false =>
      rw [if_neg (by decide),Bool.not_false,Bool.and_true]
      by_cases h2:hasV (tg l j) a
      · rw [if_pos h2,decide_eq_true h2];rfl
      · rw [if_neg h2,decide_eq_false h2];rfl) l.length (Nat.le_refl _)
  rw [List.take_length] at this;exact this
theorem filter_split (p q:P3→Bool): ∀ l:List P3,(l.filter p).length=(l.filter fun t=>p t&&q t).length+(l.filter fun t=>p t&& !q t).length
  | []=>rfl
  | t::r=>by
    have:=filter_split p q r
    cases h:p t<;>cases h2:q t<;>simp only [List.filter_cons,h,h2,if_true,if_false,Bool.not_true,Bool.not_false,List.length_cons,Bool.false_eq_true,Bool.true_and,Bool.false_and,Bool.and_true,Bool.and_false]<;>omega
theorem filter_congrL {p q:P3→Bool} (h: ∀ t,p t=q t) (l:List P3):(l.filter p).length=(l.filter q).length:=by rw [show p=q from funext h]
theorem deg_fan (a b:Int) (l:List P3):(l.filter (atV a)).length=(l.filter (both a b)).length+(fanL a b l l.length).length:=by
  rw [fan_cnt,filter_split (atV a) (both a b) l]
  congr 1
  exact filter_congrL (fun t=>by rw [both_bool];cases atV a t<;>cases atV b t<;>rfl) l
theorem dn_inj {a v w:Int} (h1:v≠a) (h2:w≠a) (h:dn a v=dn a w):v=w:=by unfold dn at h;split at h<;>split at h<;>omega
theorem deg_col {V:Int→Prop} {l:List P3} {a b:Int} (f:Free l a b):(((colM a b l).map (mapT (dn a))).filter (atV (dn a b))).length+2*(l.filter (both a b)).length=(l.filter (atV a)).length+(l.filter (atV b)).length:=by
  have hp: ∀ t:P3,(atV (dn a b) ∘ mapT (dn a) ∘ phT a b) t=(atV a t|| atV b t):=fun t=>by
    rw [Bool.eq_iff_iff]
    simp only [Function.comp,atV,Bool.or_eq_true,decide_eq_true_eq]
    constructor
    · intro h
      obtain ⟨v,hv,e⟩:=mapT_hasV.1 h
      have hva:v≠a:=fun e'=>img_a f (by rw [e'] at hv;exact hv)
      have:=dn_inj hva f.ne.symm e
      exact (img_b f).1 (by rw [this] at hv;exact hv)
    · intro h
      exact mapT_hasV.2 ⟨b,(img_b f).2 h,rfl⟩
  have e1:(((colM a b l).map (mapT (dn a))).filter (atV (dn a b))).length=(l.filter fun t=>(atV a t|| atV b t)&& !both a b t).length:=by
    unfold colM
    rw [List.map_map,List.filter_map,List.length_map,List.filter_filter]
    refine filter_congrL (fun t=> ?_) l
    have:=hp t
    simp only [Function.comp] at this ⊢
    rw [this]
  have s1:=filter_split (fun t=>(atV a t|| atV b t)&& !both a b t) (atV a) l
  have s2:=filter_split (atV a) (both a b) l
  have s3:=filter_split (atV b) (both a b) l
  have c1:=filter_congrL (p:=fun t=>((atV a t|| atV b t)&& !both a b t)&&atV a t) (q:=fun t=>atV a t&& !both a b t) (fun t=>by rw [both_bool];cases atV a t<;>cases atV b t<;>rfl) l
  have c2:=filter_congrL (p:=fun t=>((atV a t|| atV b t)&& !both a b t)&& !atV a t) (q:=fun t=>atV b t&& !both a b t) (fun t=>by rw [both_bool];cases atV a t<;>cases atV b t<;>rfl) l
  have c3:=filter_congrL (p:=fun t=>atV a t&&both a b t) (q:=both a b) (fun t=>by rw [both_bool];cases atV a t<;>cases atV b t<;>rfl) l
  have c4:=filter_congrL (p:=fun t=>atV b t&&both a b t) (q:=both a b) (fun t=>by rw [both_bool];cases atV a t<;>cases atV b t<;>rfl) l
  omega
theorem gone_len {x:tabE.T} (g:Full x) (hs:SurfM (InN x.1.1) x.1.2) {a b:Int} (hn:nearR x a b=true):(x.1.2.filter (both a b)).length=if tFacing x (a,b)<0∨tOpp x (tFacing x (a,b))<0 then 1 else 2:=by
  by_cases h:tFacing x (a,b)<0
  · rw [if_pos (.inl h)]
    obtain ⟨d,d1,d2⟩:=(near_iff g).1 hn
    rcases d2 with e | e
    · have:=g.facing d1;rw [e] at this;rw [this] at h
      exact absurd (tHas_iff.1 d1).1 (by omega)
    · have k:=both_len g hs d1
      rw [e] at k
      have ho: ¬ 0≤tOpp x d:=fun h0=>by
        obtain ⟨_,h2,h3⟩:=g.opp h0
        have:=g.facing h2;rw [h3,e] at this
        have h2:=(tHas_iff.1 h2).1
        have this:tFacing x (a,b)=tOpp x d:=this
        omega
      rw [if_neg ho] at k
      rw [← k]
      exact filter_congrL (fun t=>by rw [both_bool,both_bool,Bool.and_comm]) _
  · have hf:tFacing x (a,b)≥0:=by omega
    obtain ⟨c,c1,c2⟩:=eE_iff.1 ((face_iff g).1 hf)
    have e:=g.facing c1
    rw [c2] at e
    have k:=both_len g hs c1
    rw [c2] at k
    rw [e] at h ⊢
    have k:(x.1.2.filter (both a b)).length=if 0≤tOpp x c then 2 else 1:=k
    rw [k]
    by_cases ho:0≤tOpp x c
    · rw [if_pos ho,if_neg (by omega)]
    · rw [if_neg ho,if_pos (by omega)]
structure Cnt (s:SoT) (a b:Int) (gone:Nat):Prop where
  len:(drL a b s.2 s.2.length).length+gone=s.2.length
  at_:(atL a b s.2 s.2.length).length=gone
  rt:(rtL a b s.2 s.2.length).length=gone
  fan:(fanL a b s.2 s.2.length).length+gone=(aroundL (some (newT s)) a).length
  deg:(aroundL (some (newT (s.1 - 1,drL a b s.2 s.2.length))) (mapV b a b)).length+2*gone=(aroundL (some (newT s)) a).length+(aroundL (some (newT s)) b).length
  u:Surf (s.1 - 1,drL a b s.2 s.2.length)
theorem col_cnt {s:SoT} {a b:Int} (h:doE s a b=0):Cnt s a b (if tFacing (newT s) (a,b)<0∨tOpp (newT s) (tFacing (newT s) (a,b))<0 then 1 else 2):=by
  obtain ⟨hs,ha,hb,hw,hab⟩:=doE_why h
  obtain ⟨_,g,e⟩:=new_of hs
  have hm:=surfM_of (s:=(newT s).1) (by rw [e];exact hs)
  have f:=free_of g hm hw
  have k:=gone_len g hm (why_0 hw).1
  rw [e] at k hm f
  have hS:Surf (s.1 - 1,drL a b s.2 s.2.length):=by
    have:=draw_surf g (by rw [e];exact hs) hw
    rw [e] at this
    rw [drL_all];exact this
  have a1:=at_cnt a b s.2
  have a2:=at_dr a b s.2 s.2.length
  have a3:=at_rt a b s.2 s.2.length
  have a4:=deg_fan a b s.2
  have d1:=deg_len (x:=newT s) g (by rw [e];exact hs) (v:=a) (by rw [e];exact ha)
  have d2:=deg_len (x:=newT s) g (by rw [e];exact hs) (v:=b) (by rw [e];exact hb)
  obtain ⟨_,g2,e2⟩:=new_of hS
  have hmb:mapV b a b=dn a b:=by
    rw [mapV_dr hb.1];unfold ph;split<;>rfl
  have d3:=deg_len (x:=newT (s.1 - 1,drL a b s.2 s.2.length)) g2 (by rw [e2];exact hS) (v:=dn a b) (by
    rw [e2]
    unfold InN at *
    show 0≤dn a b∧dn a b<s.1 - 1
    unfold dn
    split<;>omega)
  have d4:=deg_col (V:=InN s.1) f
  rw [e] at d1 d2
  rw [e2] at d3
  have d3:(aroundL (some (newT (s.1 - 1,drL a b s.2 s.2.length))) (dn a b)).length=((drL a b s.2 s.2.length).filter (atV (dn a b))).length:=d3
  rw [drL_all] at d3
  rw [← k]
  refine ⟨by omega,a1,by omega,by omega,?_,hS⟩
  rw [hmb,drL_all]
  omega
theorem img_map {a b:Int} {t:P3} (h1:0≤t.1) (h2:0≤t.2.1) (h3:0≤t.2.2):drT a b t=(mapV t.1 a b,mapV t.2.1 a b,mapV t.2.2 a b):=by
  rw [mapV_dr h1,mapV_dr h2,mapV_dr h3];rfl
structure Img (s:SoT) (a b:Int) (i:Nat):Prop where
  rng: ∀ v,hasV (tg s.2 i) v→0≤mapV v a b∧mapV v a b<s.1 - 1
  stay:both a b (tg s.2 i)=false→¬ dgn (drT a b (tg s.2 i))∧(drL a b s.2 i).length<(drL a b s.2 s.2.length).length∧tg (drL a b s.2 s.2.length) (drL a b s.2 i).length=drT a b (tg s.2 i)∧drL a b s.2 (i+1)=drL a b s.2 i++[drT a b (tg s.2 i)]
  go:both a b (tg s.2 i)=true→dgn (drT a b (tg s.2 i))∧drL a b s.2 (i+1)=drL a b s.2 i∧∀ p q,hasV (drT a b (tg s.2 i)) p→hasV (drT a b (tg s.2 i)) q→p≠q→nearR (newT (s.1 - 1,drL a b s.2 s.2.length)) p q=true
  two:both a b (tg s.2 i)=true→∃ p q,hasV (drT a b (tg s.2 i)) p∧hasV (drT a b (tg s.2 i)) q∧p≠q
theorem col_img {s:SoT} {a b:Int} (h:doE s a b=0) {i:Nat} (hi:i<s.2.length):Img s a b i:=by
  obtain ⟨hs,ha,hb,hw,hab⟩:=doE_why h
  obtain ⟨_,g,e⟩:=new_of hs
  have hm:=surfM_of (s:=(newT s).1) (by rw [e];exact hs)
  have f:=free_of g hm hw
  have hS:Surf (s.1 - 1,drL a b s.2 s.2.length):=by
    have:=draw_surf g (by rw [e];exact hs) hw
    rw [e] at this
    rw [drL_all];exact this
  rw [e] at hm f
  have ht:=tg_mem hi
  have hr: ∀ v,hasV (tg s.2 i) v→0≤v∧v<s.1:=fun v hv=>by
    have k:=triIn_spec (hs.fit.2.2.2 i hi)
    rcases hv with e | e | e<;>rw [← e]
    · exact k.1
    · exact k.2.1
    · exact k.2.2
  have n1:=hr _ (.inl rfl)
  have n2:=hr _ (.inr (.inl rfl))
  have n3:=hr _ (.inr (.inr rfl))
  unfold InN at ha hb
  refine ⟨fun v hv=> ?_,fun hn=> ?_,fun hn=> ?_,fun hn=> ?_⟩
  · have:=hr v hv
    rw [mapV_dr this.1]
    unfold dn ph
    split<;>split<;>omega
  · have hn': ¬ (hasV (tg s.2 i) a∧hasV (tg s.2 i) b):=fun k=>by rw [both_iff.2 k] at hn;cases hn
    have hd:=col_deg hm f ht hn'
    have inj: ∀ {v w},hasV (phT a b (tg s.2 i)) v→hasV (phT a b (tg s.2 i)) w→dn a v=dn a w→v=w:=fun {v w} hv hw e =>
      dn_inj (fun e'=>img_a f (by rw [e'] at hv;exact hv)) (fun e'=>img_a f (by rw [e'] at hw;exact hw)) e
    have eg:drG a b s.2 i=some (drT a b (tg s.2 i)):=by unfold drG;rw [if_neg (by rw [hn];decide)]
    have fa:=fm_at (0,0,0) (drG a b s.2) eg s.2.length hi
    refine ⟨?_,fa.1,fa.2,?_⟩
    · rintro (k | k | k)
      · exact hd (.inl (inj (.inl rfl) (.inr (.inl rfl)) k))
      · exact hd (.inr (.inl (inj (.inr (.inl rfl)) (.inr (.inr rfl)) k)))
      · exact hd (.inr (.inr (inj (.inr (.inr rfl)) (.inl rfl) k)))
    · rw [drL_succ,eg];rfl
  · have hn':=both_iff.1 hn
    have eg:drG a b s.2 i=none:=by unfold drG;rw [if_pos hn]
    refine ⟨?_,by rw [drL_succ,eg];exact List.append_nil _,fun p q hp hq hpq=> ?_⟩
    · have k1:=hn'.1;have k2:=hn'.2
      have key:ph a b a=ph a b b:=by rw [ph_a,ph_n f.ne.symm]
      have key2: ∀ v w,(v=a∧w=b)∨(v=b∧w=a)→dn a (ph a b v)=dn a (ph a b w):=fun v w hh=>by
        rcases hh with ⟨e1,e2⟩ | ⟨e1,e2⟩<;>rw [e1,e2,key]
      have fab:=f.ne
      unfold hasV at k1 k2
      show dn a (ph a b _)=dn a (ph a b _)∨dn a (ph a b _)=dn a (ph a b _)∨dn a (ph a b _)=dn a (ph a b _)
      rcases k1 with e1 | e1 | e1<;>rcases k2 with e2 | e2 | e2
      · exact absurd (e1.symm.trans e2) fab
      · exact .inl (key2 _ _ (.inl ⟨e1,e2⟩))
      · exact .inr (.inr (key2 _ _ (.inr ⟨e2,e1⟩)))
      · exact .inl (key2 _ _ (.inr ⟨e2,e1⟩))
      · exact absurd (e1.symm.trans e2) fab
      · exact .inr (.inl (key2 _ _ (.inl ⟨e1,e2⟩)))
      · exact .inr (.inr (key2 _ _ (.inl ⟨e1,e2⟩)))
      · exact .inr (.inl (key2 _ _ (.inr ⟨e2,e1⟩)))
      · exact absurd (e1.symm.trans e2) fab
    · obtain ⟨r,ra,rb,hr1,hr2⟩:=third (hm.deg _ ht) f.ne hn'.1 hn'.2
      obtain ⟨u,hu,hd,hur,huab⟩:=lone_nd hm f ht hn'.1 hn'.2 ra rb hr1
      -- the images of the triangle's vertices
      have im: ∀ v,hasV (drT a b (tg s.2 i)) v→v=dn a b∨v=dn a r:=fun v hv=>by
        obtain ⟨w,hw,ew⟩:=mapT_hasV.1 hv
        obtain ⟨z,hz,ez⟩:=ph_hasV' hw
        rcases hr2 z hz with e | e | e
        · rw [e,ph_a] at ez;rw [← ez] at ew;exact .inl ew.symm
        · rw [e,ph_n f.ne.symm] at ez;rw [← ez] at ew;exact .inl ew.symm
        · rw [e,ph_n ra] at ez;rw [← ez] at ew;exact .inr ew.symm
      obtain ⟨_,g2,e2⟩:=new_of hS
      have hne:dn a b≠dn a r:=fun k=>rb (dn_inj f.ne.symm ra k).symm
      have hx: ∃ t∈(newT (s.1 - 1,drL a b s.2 s.2.length)).1.2,hasV t (dn a b)∧hasV t (dn a r):=by
        rw [e2]
        show ∃ t∈drL a b s.2 s.2.length,_
        rw [drL_all]
        refine ⟨mapT (dn a) (phT a b u),List.mem_map.2 ⟨_,col_mem.2 ⟨u,hu,hd,rfl⟩,rfl⟩,mapT_hasV.2 ⟨b,(img_b f).2 huab,rfl⟩,mapT_hasV.2 ⟨r,(img_v ra rb).2 hur,rfl⟩⟩
      have nr:=(near_has g2 hne).2 hx
      rcases im p hp with e1 | e1<;>rcases im q hq with e2 | e2
      · exact absurd (e1.trans e2.symm) hpq
      · rw [e1,e2];exact nr
      · rw [e1,e2,near_symm];exact nr
      · exact absurd (e1.trans e2.symm) hpq
  · have hn':=both_iff.1 hn
    obtain ⟨r,ra,rb,hr1,hr2⟩:=third (hm.deg _ ht) f.ne hn'.1 hn'.2
    exact ⟨dn a b,dn a r,mapT_hasV.2 ⟨b,(img_b f).2 (.inl hn'.1),rfl⟩,mapT_hasV.2 ⟨r,(img_v ra rb).2 hr1,rfl⟩,fun k=>rb (dn_inj f.ne.symm ra k).symm⟩
end S1
open Go Go.Vm Go.Proofs
namespace S1
theorem farI_self (p:P3):farI p p=0:=by unfold farI far1;omega
theorem farI_nn (p q:P3):0≤farI p q:=by unfold farI far1;omega
structure Stay (n a b:Int) (p q:List P3):Prop where
  len:(q.length:Int)=n - 1
  pl:(p.length:Int)=n
  at_: ∀ v:Nat,(v:Int)<n→(v:Int)≠a→q.getD (mapV v a b).toNat (0,0,0)=p.getD v (0,0,0)
  ab:0≤a∧a<n∧0≤b∧b<n∧a≠b
def imgL (n a b:Int):List Int:=(List.range n.toNat).map fun v:Nat=>mapV (v:Int) a b
theorem imgL_len (n a b:Int):(imgL n a b).length=n.toNat:=by unfold imgL;rw [List.length_map,List.length_range]
theorem imgL_get {n a b:Int} {v:Nat} (h:(v:Int)<n):(imgL n a b).getD v 0=mapV v a b:=by
  unfold imgL
  rw [gdE,gE (by rw [List.length_map,List.length_range];omega),List.getElem_map,List.getElem_range];rfl
theorem mapV_rng {n a b v:Int} (h:0≤v∧v<n) (hb:0≤b∧b<n) (ha:0≤a∧a<n) (hab:a≠b):0≤mapV v a b∧mapV v a b<n - 1:=by
  unfold mapV
  (repeat' split)<;>omega
theorem bad_img {n a b:Int} (hb:0≤b∧b<n) (ha:0≤a∧a<n) (hab:a≠b):badAny (n - 1) (imgL n a b)=false:=by
  have: ∀ l:List Int,(∀ x∈l,0≤x∧x<n - 1)→badAny (n - 1) l=false:=fun l=>by
    induction l with
    | nil=>intro _;rfl
    | cons x r ih =>
      intro h
      have h1:=h x (List.mem_cons_self ..)
      unfold badAny
      rw [ih fun y hy=>h y (List.mem_cons_of_mem _ hy),decide_eq_false (by omega),decide_eq_false (by omega)];rfl
  apply this
  intro x hx
  obtain ⟨v,hv,rfl⟩:=List.mem_map.1 hx
  have:=List.mem_range.1 hv
  exact mapV_rng ⟨by omega,by omega⟩ hb ha hab
section
variable {n a b:Int} {p q:List P3} (h:Stay n a b p q)
include h
theorem Stay.move (v:Nat) (hv:(v:Int)<n):farI (p.getD v (0,0,0)) (q.getD ((imgL n a b).getD v 0).toNat (0,0,0))=if (v:Int)=a then farI (p.getD a.toNat (0,0,0)) (p.getD b.toNat (0,0,0)) else 0:=by
  rw [imgL_get hv]
  by_cases e:(v:Int)=a
  · rw [if_pos e]
    obtain ⟨a1,a2,b1,b2,hab⟩:=h.ab
    have e1:mapV (v:Int) a b=mapV b a b:=by
      unfold mapV;(repeat' split)<;>omega
    have e2:=h.at_ b.toNat (by omega) (by omega)
    rw [show ((b.toNat:Nat):Int)=b by omega] at e2
    rw [e1,e2,show v=a.toNat by omega]
  · rw [if_neg e,h.at_ v hv e,farI_self]
theorem Stay.fold: ∀ (k i:Nat) (m:Int),i+k=n.toNat→0≤m→farFold p q i ((imgL n a b).drop i) m=if (i:Int)≤a then max m (farI (p.getD a.toNat (0,0,0)) (p.getD b.toNat (0,0,0))) else m
  | 0,i,m,e,hm=>by
    have hab:=h.ab
    rw [List.drop_eq_nil_of_le (by rw [imgL_len];omega),if_neg (by omega)];rfl
  | k +1,i,m,e,hm=>by
    have hab:=h.ab
    have hl:=imgL_len n a b
    rw [drop_at 0 (by rw [hl];omega)]
    show farFold p q (i+1) _ (max m (farI (p.getD i (0,0,0)) (q.getD ((imgL n a b).getD i 0).toNat (0,0,0))))=_
    rw [h.move i (by omega)]
    have hF:=farI_nn (p.getD a.toNat (0,0,0)) (p.getD b.toNat (0,0,0))
    by_cases ea:(i:Int)=a
    · rw [if_pos ea,Stay.fold k (i+1) _ (by omega) (by omega),if_neg (by omega),if_pos (by omega)]
    · rw [if_neg ea,Stay.fold k (i+1) _ (by omega) (by omega),Int.max_eq_left hm]
      by_cases e2:(i:Int)≤a
      · rw [if_pos e2,if_pos (by omega)]
      · rw [if_neg e2,if_neg (by omega)]
theorem Stay.check:dcheckR p (imgL n a b) q=0:=by
  have hab:=h.ab
  have hl:=imgL_len n a b
  have hp:=h.pl
  unfold dcheckR
  rw [if_neg (by omega),h.len,bad_img ⟨by omega,by omega⟩ ⟨by omega,by omega⟩ hab.2.2.2.2];rfl
theorem Stay.moves:moveR p (imgL n a b) q=(farI (p.getD a.toNat (0,0,0)) (p.getD b.toNat (0,0,0)),0):=by
  have hab:=h.ab
  unfold moveR
  rw [if_neg (by rw [h.check];decide)]
  have:=h.fold n.toNat 0 0 (by omega) (by omega)
  rw [List.drop_zero] at this
  rw [this,if_pos (by omega),Int.max_eq_right (farI_nn _ _)]
end
theorem mget2 (m:M2) (x y:Int×Int) (v:Bool):mget .arr2 (mset .arr2 m x v) y=if x=y then some v else mget .arr2 m y:=by
  by_cases e:x=y
  · subst e;rw [if_pos rfl];exact mget_same v x m
  · rw [if_neg e];exact mget_other (k:= .arr2) v e m
theorem mget3 (m:M3) (x y:P3) (v:Bool):mget .arr3 (mset .arr3 m x v) y=if x=y then some v else mget .arr3 m y:=by
  by_cases e:x=y
  · subst e;rw [if_pos rfl];exact mget_same v x m
  · rw [if_neg e];exact mget_other (k:= .arr3) v e m
theorem addE_keep {m:M2} {t:P3} {e:Int×Int} (h:mget .arr2 m e=some true):mget .arr2 (addE m t) e=some true:=by
  unfold addE
  rw [mget2,mget2,mget2,h]
  (repeat' split)<;>rfl
theorem addE_put {m:M2} {t:P3} {x y:Int} (h1:hasV t x) (h2:hasV t y) (hne:x≠y):mget .arr2 (addE m t) (dedge x y)=some true:=by
  unfold addE
  rw [mget2,mget2,mget2]
  have hc: ∀ u v:Int,dedge u v=dedge v u:=fun u v=>by unfold dedge;rw [Int.min_comm,Int.max_comm]
  have:dedge t.2.2 t.1=dedge x y∨dedge t.2.1 t.2.2=dedge x y∨dedge t.1 t.2.1=dedge x y:=by
    rcases h1 with e1 | e1 | e1<;>rcases h2 with e2 | e2 | e2<;>subst e1
    · exact absurd e2 hne
    · subst e2;exact .inr (.inr rfl)
    · subst e2;exact .inl (hc _ _)
    · subst e2;exact .inr (.inr (hc _ _))
    · exact absurd e2 hne
    · subst e2;exact .inr (.inl rfl)
    · subst e2;exact .inl rfl
    · subst e2;exact .inr (.inl (hc _ _))
    · exact absurd e2 hne
  rcases this with e | e | e
  · rw [if_pos e]
  · split<;>first | rfl | rw [if_pos e]
  · split
    · rfl
    · split<;>first | rfl | rw [if_pos e]
theorem known_keep: ∀ (l:List P3) (m:M2) (k:M3),(∀ e,mget .arr2 m e=some true→mget .arr2 (knownR l m k).1 e=some true)∧(∀ t,mget .arr3 k t=some true→mget .arr3 (knownR l m k).2 t=some true)
  | [],_,_=>⟨fun _ h=>h,fun _ h=>h⟩
  | t::l,m,k=>by
    obtain ⟨h1,h2⟩:=known_keep l (addE m t) (mset .arr3 k (sortR t) true)
    refine ⟨fun e h=>h1 e (addE_keep h),fun u h=>h2 u ?_⟩
    rw [mget3,h];split<;>rfl
theorem known_has: ∀ (l:List P3) (m:M2) (k:M3),∀ t∈l,(∀ x y,hasV t x→hasV t y→x≠y→mget .arr2 (knownR l m k).1 (dedge x y)=some true)∧mget .arr3 (knownR l m k).2 (sortR t)=some true
  | [],_,_,t,h=>by cases h
  | u ::l,m,k,t,h=>by
    rcases List.mem_cons.1 h with rfl | h
    · obtain ⟨h1,h2⟩:=known_keep l (addE m t) (mset .arr3 k (sortR t) true)
      refine ⟨fun x y hx hy hne=>h1 _ (addE_put hx hy hne),h2 _ ?_⟩
      rw [mget3,if_pos rfl]
    · exact known_has l _ _ t h
theorem sort3 (t:P3): ∃ x y z,sortR t=(x,y,z)∧x≤y∧y≤z∧(∀ v,hasV (x,y,z) v↔hasV t v):=by
  obtain ⟨a,b,c⟩:=t
  unfold sortR
  by_cases h1:a>b
  · rw [sw1_pos h1]
    by_cases h2:a>c
    · rw [sw2_pos h2]
      by_cases h3:b>c
      · rw [sw1_pos h3];exact ⟨_,_,_,rfl,by omega,by omega,fun v=>by unfold hasV;simp only;omega⟩
      · rw [sw1_neg h3];exact ⟨_,_,_,rfl,by omega,by omega,fun v=>by unfold hasV;simp only;omega⟩
    · rw [sw2_neg h2]
      by_cases h3:b>a
      · omega
      · rw [sw1_neg h3];exact ⟨_,_,_,rfl,by omega,by omega,fun v=>by unfold hasV;simp only;omega⟩
  · rw [sw1_neg h1]
    by_cases h2:b>c
    · rw [sw2_pos h2]
      by_cases h3:a>c
      · rw [sw1_pos h3];exact ⟨_,_,_,rfl,by omega,by omega,fun v=>by unfold hasV;simp only;omega⟩
      · rw [sw1_neg h3];exact ⟨_,_,_,rfl,by omega,by omega,fun v=>by unfold hasV;simp only;omega⟩
    · rw [sw2_neg h2]
      by_cases h3:a>b
      · omega
      · rw [sw1_neg h3];exact ⟨_,_,_,rfl,by omega,by omega,fun v=>by unfold hasV;simp only⟩
theorem simpT_of {l:List P3} {image:List Int} {t:P3} {u:P3} (hu:(image.getD t.1.toNat 0,image.getD t.2.1.toNat 0,image.getD t.2.2.toNat 0)=u) (h1: ¬ dgn u→∃ w∈l,sortR w=sortR u) (h2: ∀ x y,hasV u x→hasV u y→x≠y→dgn u→∃ w∈l,hasV w x∧hasV w y):simpT (knownR l [] []).1 (knownR l [] []).2 image t=true:=by
  have ei:imgOf image t=sortR u:=by unfold imgOf;rw [hu]
  obtain ⟨x,y,z,e,hxy,hyz,hv⟩:=sort3 u
  unfold simpT
  rw [ei,e]
  show (if x=z then true else if x=y∨y=z then _ else _)=true
  by_cases c1:x=z
  · rw [if_pos c1]
  · rw [if_neg c1]
    by_cases c2:x=y∨y=z
    · rw [if_pos c2]
      have hd:dgn u:=by
        apply Classical.byContradiction
        intro hn
        have k1:=(hv u.1).2 (.inl rfl)
        have k2:=(hv u.2.1).2 (.inr (.inl rfl))
        have k3:=(hv u.2.2).2 (.inr (.inr rfl))
        unfold dgn at hn
        unfold hasV at k1 k2 k3
        simp only at k1 k2 k3
        omega
      obtain ⟨w,hw,w1,w2⟩:=h2 x z ((hv x).1 (.inl rfl)) ((hv z).1 (.inr (.inr rfl))) c1 hd
      have:=(known_has l [] [] w hw).1 x z w1 w2 c1
      rw [show dedge x z=(x,z) by unfold dedge;rw [Int.min_eq_left (by omega),Int.max_eq_right (by omega)]] at this
      rw [this];rfl
    · rw [if_neg c2]
      have hd: ¬ dgn u:=by
        intro hn
        have k1:=(hv x).1 (.inl rfl)
        have k2:=(hv y).1 (.inr (.inl rfl))
        have k3:=(hv z).1 (.inr (.inr rfl))
        unfold dgn at hn
        unfold hasV at k1 k2 k3
        omega
      obtain ⟨w,hw,ew⟩:=h1 hd
      have:=(known_has l [] [] w hw).2
      rw [ew,e] at this
      rw [this];rfl
theorem fitsR_surf {s:SoT} (h:Surf s):fitsR s=true:=by
  unfold fitsR
  rw [List.all_eq_true]
  intro t ht
  obtain ⟨i,hi,e⟩:=mem_tg ht
  rw [← e];exact h.fit.2.2.2 i hi
end S1
open Go Go.Vm Go.Proofs
namespace S1
def sameRec (a b:RecT):Bool:=decide (a.1=b.1)&&(decide (a.2.1=b.2.1)&&(eqL a.2.2.1 b.2.2.1&&(eqR a.2.2.2.1 b.2.2.2.1&&eqL a.2.2.2.2 b.2.2.2.2)))
def undoV (r:SoT×Int):AV:= .tup [soupE.av r.1,.s (.int .i64 r.2)]
def undoW (r:SoT×Int):AV:=if r.2=0 then undoV r else .tup [.agg [.int .i64 0,.val (.slice none 0 0)],.s (.int .i64 r.2)]
attribute [local irreducible] undoW bkR doR eqS sameRec soupFit
end S1
open Go Go.Vm Go.Proofs
namespace S1
end S1
open Go Go.Vm Go.Proofs
namespace S1
attribute [local irreducible] doR undoR recR eqS
end S1
open Go Go.Vm Go.Proofs
namespace S1
def cdoXC (d:SoT×RecT×Int):List AV→Option Res:=con3 soupE i64E i64E (fun s a b=>some (none,some (doR s a b=d),doV d))
theorem cdoXRow (d:SoT×RecT×Int):FnRow Tryz.prog 11 (cdoXC d):=⟨con3_ok fun s a b r h=>by
  cases h
  intro σ vals w hag hv
  refine ⟨trivial,fun hq=> ?_⟩
  have hq:doR s a b=d:=hq
  subst hq
  exact (cdoRow.1 _ _ (rfl:cdoC [soupE.av s,i64E.av a,i64E.av b]=_) σ vals w hag hv).2 trivial,_,Tryz.func11,by kernel_rfl,by kernel_rfl⟩
def cmapXC (p:Int×Int×(Int→Int)):List AV→Option Res:=con2 i64E recE (fun (v:Int) (r:RecT)=>some (none,some ((-1000000≤v∧v≤1000000)∧(-1000000≤p.2.1∧p.2.1≤1000000)∧r.1=p.1∧r.2.1=p.2.1∧p.2.2 v=mapV v p.1 p.2.1),.s (.int .i64 (p.2.2 v))))
theorem cmapXRow (p:Int×Int×(Int→Int)):FnRow Tryz.prog 34 (cmapXC p):=⟨con2_ok fun v s r h=>by
  cases h
  intro σ vals w hag hv
  refine ⟨trivial,fun hq=> ?_⟩
  have hq:(-1000000≤v∧v≤1000000)∧(-1000000≤p.2.1∧p.2.1≤1000000)∧s.1=p.1∧s.2.1=p.2.1∧p.2.2 v=mapV v p.1 p.2.1:=hq
  have:=(cmapRow.1 _ _ (rfl:cmapC [i64E.av v,recE.av s]=_) σ vals w hag hv).2 (show (-1000000≤v∧v≤1000000)∧(-1000000≤s.2.1∧s.2.1≤1000000) from ⟨hq.1,by rw [hq.2.2.2.1];exact hq.2.1⟩)
  rw [hq.2.2.1,hq.2.2.2.1,← hq.2.2.2.2] at this
  exact this,_,Tryz.func34,by kernel_rfl,by kernel_rfl⟩
end S1
