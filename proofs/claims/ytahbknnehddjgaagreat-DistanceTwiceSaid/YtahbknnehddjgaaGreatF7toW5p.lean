/- A part of the proofs of the laws. -/
import Derived.Test.YtahbknnehddjgaaGreatF4toT16
import Derived.Test.YtahbknnehddjgaaGreatT17toW1
set_option linter.unusedSimpArgs false
set_option linter.unusedVariables false
set_option maxHeartbeats 8000000
set_option maxRecDepth 100000
open Go Go.Vm Go.Proofs
namespace S1
inductive Conn (A:Nat→Nat→Prop):Nat→Nat→Prop
  | refl (t:Nat):Conn A t t
  | step {t u w:Nat} :Conn A t u→A u w→Conn A t w
theorem Conn.trans {A:Nat→Nat→Prop} {t u w:Nat} (h:Conn A t u) (k:Conn A u w):Conn A t w:=by
  induction k with
  | refl=>exact h
  | step _ a ih=>exact .step ih a
theorem Conn.symm {A:Nat→Nat→Prop} (hs: ∀ t u,A t u→A u t) {t u:Nat} (h:Conn A t u):Conn A u t:=by
  induction h with
  | refl=>exact .refl _
  | step _ a ih=>exact Conn.trans (.step (.refl _) (hs _ _ a)) ih
theorem Conn.mono {A B:Nat→Nat→Prop} (h: ∀ t u,A t u→B t u) {t u:Nat} (k:Conn A t u):Conn B t u:=by
  induction k with
  | refl=>exact .refl _
  | step _ a ih=>exact .step ih (h _ _ a)
def Adj (x:tabE.T) (i j:Nat):Prop:= ∃ c,tHas x c=true∧(c / 3).toNat=i∧0≤tOpp x c∧(tOpp x c / 3).toNat=j
theorem Full.opp_opp {x:tabE.T} (g:Full x) {c:Int} (h:0≤tOpp x c):tOpp x (tOpp x c)=c:=by
  obtain ⟨h1,h2,h3⟩:=g.opp h
  exact g.opp_is h1 (by rw [h3])
theorem Full.adj_symm {x:tabE.T} (g:Full x) {i j:Nat} (h:Adj x i j):Adj x j i:=by
  obtain ⟨c,h1,h2,h3,h4⟩:=h
  exact ⟨tOpp x c,(g.opp h3).2.1,h4,by rw [g.opp_opp h3];exact (tHas_iff.1 h1).1,by rw [g.opp_opp h3];exact h2⟩
theorem adj_lt {x:tabE.T} (g:Good x) {i j:Nat} (h:Adj x i j):i<x.1.2.length∧j<x.1.2.length:=by
  obtain ⟨c,h1,h2,h3,h4⟩:=h
  exact ⟨by rw [← h2];exact (cor_tri h1).1,by rw [← h4];exact (cor_tri (g.opp h3).2.1).1⟩
abbrev lb (l:List Int) (t:Nat):Int:=l.getD t 0
theorem lb_set {l:List Int} {i t:Nat} {k:Int} (hi:i<l.length):lb (l.set i k) t=if i=t then k else lb l t:=by
  unfold lb
  rw [gdE,List.getElem?_set,gdE]
  split
  · rfl
  · rfl
structure Lab (x:tabE.T) (out:List Int) (n:Int):Prop where
  len:out.length=x.1.2.length
  lt: ∀ t,t<x.1.2.length→lb out t<n
  clo: ∀ t u,Adj x t u→0≤lb out t→lb out u=lb out t
  con: ∀ t u,t<x.1.2.length→u<x.1.2.length→0≤lb out t→lb out t=lb out u→Conn (Adj x) t u
structure Bf (x:tabE.T) (o0:List Int) (n:Int) (f:Nat) (s:OS):Prop where
  len:s.1.length=x.1.2.length
  old: ∀ t,t<x.1.2.length→lb s.1 t=lb o0 t∨(lb s.1 t=n∧lb o0 t<0)
  q: ∀ t,t<x.1.2.length→lb s.1 t=n→(t:Int)∈s.2
  qn: ∀ t∈s.2,0≤t∧t.toNat<x.1.2.length∧lb s.1 t.toNat=n
  con: ∀ t∈s.2,Conn (Adj x) f t.toNat
theorem bf_step {x:tabE.T} (g:Full x) {o0:List Int} {n:Int} {f:Nat} (hn:0≤n) (ho: ∀ t,t<x.1.2.length→lb o0 t<n) {j:Nat} {s:OS} (h:Bf x o0 n f s) (hj:j<s.2.length) (c:Nat) (hc:c<3) :
    Bf x o0 n f (ofC x n j s c)∧(ofC x n j s c).2.getD j 0=s.2.getD j 0∧(∀ t,t<x.1.2.length→0≤lb s.1 t→lb (ofC x n j s c).1 t=lb s.1 t)∧(s.2.length≤(ofC x n j s c).2.length)∧
    (0≤tOpp x (3*s.2.getD j 0+c)→0≤lb (ofC x n j s c).1 (tOpp x (3*s.2.getD j 0+c) / 3).toNat)∧(∀ i,i<s.2.length→(ofC x n j s c).2.getD i 0=s.2.getD i 0):=by
  unfold ofC
  split
  · rename_i hh
    obtain ⟨h1,h2⟩:=hh
    obtain ⟨k1,k2,_⟩:=g.opp h1
    have hm:s.2.getD j 0∈s.2:=getD_mem hj
    obtain ⟨q1,q2,q3⟩:=h.qn _ hm
    have hu:=cor_tri k2
    have ho':=tHas_iff.1 k2
    have hu1:=hu.1
    have happ: ∀ i,i<s.2.length→(s.2++[tOpp x (3*s.2.getD j 0+c) / 3]).getD i 0=s.2.getD i 0:=fun i hi=>by
      rw [gdE,List.getElem?_append_left hi,← gdE]
    have hadj:Adj x (s.2.getD j 0).toNat (tOpp x (3*s.2.getD j 0+c) / 3).toNat:=⟨_,k1,by omega,h1,rfl⟩
    refine ⟨⟨by show (s.1.set _ _).length=_;rw [List.length_set];exact h.len,fun t ht=> ?_,fun t ht e=> ?_,fun t ht=> ?_,fun t ht=> ?_⟩,happ j hj,fun t ht h0=> ?_,by show _≤(s.2++[_]).length;rw [List.length_append];omega,fun _=> ?_,happ⟩
    · show lb (s.1.set _ n) t=_∨(lb (s.1.set _ n) t=_∧_)
      rw [lb_set (by rw [h.len];exact hu1)]
      split
      · rename_i e
        refine .inr ⟨rfl,?_⟩
        rcases h.old t ht with e2 | e2
        · rw [← e2,← e];exact h2
        · exact e2.2
      · exact h.old t ht
    · have e:lb (s.1.set (tOpp x (3*s.2.getD j 0+c) / 3).toNat n) t=n:=e
      show (t:Int)∈s.2++[_]
      rw [lb_set (by rw [h.len];exact hu1)] at e
      split at e
      · rename_i e2
        exact List.mem_append_right _ (List.mem_singleton.2 (by omega))
      · exact List.mem_append_left _ (h.q t ht e)
    · have ht:t∈s.2++[_]:=ht
      show 0≤t∧t.toNat<_∧lb (s.1.set _ n) t.toNat=n
      rw [lb_set (by rw [h.len];exact hu1)]
      rcases List.mem_append.1 ht with ht | ht
      · obtain ⟨a,b,d⟩:=h.qn t ht
        refine ⟨a,b,?_⟩
        split
        · rfl
        · exact d
      · rw [List.mem_singleton] at ht
        refine ⟨by omega,by rw [ht];exact hu1,?_⟩
        rw [if_pos (by rw [ht])]
    · have ht:t∈s.2++[_]:=ht
      rcases List.mem_append.1 ht with ht | ht
      · exact h.con t ht
      · rw [List.mem_singleton.1 ht]
        exact .step (h.con _ hm) hadj
    · show lb (s.1.set _ n) t=_
      rw [lb_set (by rw [h.len];exact hu1),if_neg (fun e=>by rw [← e] at h0;have:lb s.1 (tOpp x (3*s.2.getD j 0+c) / 3).toNat<0:=h2;omega)]
    · show 0≤lb (s.1.set _ n) _
      rw [lb_set (by rw [h.len];exact hu1),if_pos rfl];exact hn
  · rename_i hh
    exact ⟨h,rfl,fun _ _ _=>rfl,Nat.le_refl _,fun h0=>by
      by_cases e:s.1.getD (tOpp x (3*s.2.getD j 0+c) / 3).toNat 0<0
      · exact absurd ⟨h0,e⟩ hh
      · show 0≤s.1.getD _ 0;omega,fun _ _=>rfl⟩
def Seen (x:tabE.T) (s:OS) (j:Nat):Prop:= ∀ i,i<j→∀ u,Adj x (s.2.getD i 0).toNat u→0≤lb s.1 u
theorem bf_J {x:tabE.T} (g:Full x) {o0:List Int} {n:Int} {f:Nat} (hn:0≤n) (ho: ∀ t,t<x.1.2.length→lb o0 t<n) {j:Nat} {s:OS} (h:Bf x o0 n f s) (hj:j<s.2.length) (hs:Seen x s j) :
    Bf x o0 n f (ofJ x n s j)∧Seen x (ofJ x n s j) (j+1)∧s.2.length≤(ofJ x n s j).2.length:=by
  have key: ∀ c,c≤3→Bf x o0 n f (irec (ofC x n j) s c)∧(irec (ofC x n j) s c).2.getD j 0=s.2.getD j 0∧(∀ t,t<x.1.2.length→0≤lb s.1 t→0≤lb (irec (ofC x n j) s c).1 t)∧s.2.length≤(irec (ofC x n j) s c).2.length∧
      (∀ d:Nat,d<c→0≤tOpp x (3*s.2.getD j 0+d)→0≤lb (irec (ofC x n j) s c).1 (tOpp x (3*s.2.getD j 0+d) / 3).toNat)∧(∀ i,i<s.2.length→(irec (ofC x n j) s c).2.getD i 0=s.2.getD i 0):=by
    intro c
    induction c with
    | zero=>exact fun _=>⟨h,rfl,fun _ _ h=>h,Nat.le_refl _,fun d hd=>by omega,fun _ _=>rfl⟩
    | succ c ih =>
      intro hc
      obtain ⟨i1,i2,i3,i4,i5,i6⟩:=ih (by omega)
      obtain ⟨b1,b2,b3,b4,b5,b6⟩:=bf_step g hn ho (j:=j) i1 (Nat.lt_of_lt_of_le hj i4) c (by omega)
      rw [ofC_s]
      rw [i2] at b2 b5
      refine ⟨b1,b2,fun t ht h0=> ?_,by omega,fun d hd h0=> ?_,fun i hi=>by rw [b6 i (by omega),i6 i hi]⟩
      · have:=i3 t ht h0
        rw [b3 t ht this];exact this
      · have hlt:=(cor_tri (g.opp h0).2.1).1
        by_cases e:d=c
        · subst e;exact b5 h0
        · have:=i5 d (by omega) h0
          rw [b3 _ hlt this];exact this
  obtain ⟨i1,i2,i3,i4,i5,i6⟩:=key 3 (Nat.le_refl _)
  unfold ofJ
  refine ⟨i1,fun i hi u hu=> ?_,i4⟩
  rw [i6 i (by omega)] at hu
  by_cases e:i=j
  · subst e
    obtain ⟨c,c1,c2,c3,c4⟩:=hu
    have hq:=h.qn _ (getD_mem hj)
    have hc:=tHas_iff.1 c1
    have e:c=3*s.2.getD i 0+((c % 3).toNat:Nat):=by omega
    rw [← c4,e]
    exact i5 (c % 3).toNat (by omega) (by rw [← e];exact c3)
  · exact i3 u (adj_lt g.toGood hu).2 (hs i (by omega) u hu)
theorem bf_all {x:tabE.T} (g:Full x) {o0:List Int} {n:Int} {f:Nat} (hn:0≤n) (ho: ∀ t,t<x.1.2.length→lb o0 t<n): ∀ (k j:Nat) {s:OS},Bf x o0 n f s→OOk x.1.2.length s→j≤s.2.length→Seen x s j→x.1.2.length<k+j→
    Bf x o0 n f (bfs x n k j s)∧Seen x (bfs x n k j s) (bfs x n k j s).2.length
  | 0,j,s,h,ok,hj,hs,hk=>by
    have:=ok.cnt;omega
  | k +1,j,s,h,ok,hj,hs,hk=>by
    unfold bfs
    split
    · rename_i hlt
      obtain ⟨b1,b2,b3⟩:=bf_J g hn ho h hlt hs
      exact bf_all g hn ho k (j+1) b1 (ofJ_ok g.toGood hn ok) (by omega) b2 (by omega)
    · have e:s.2.length=j:=by omega
      exact ⟨h,by rw [e];exact hs⟩
theorem lab_next {x:tabE.T} (g:Full x) {out:List Int} {n:Int} (hn:0≤n) (h:Lab x out n) {i:Nat} (hi:i<x.1.2.length) (hl: ¬ lb out i≥0) :
    Lab x (bfs x n 10000 0 (out.set i n,[(i:Int)])).1 (n+1)∧lb (bfs x n 10000 0 (out.set i n,[(i:Int)])).1 i=n∧(∀ t,t<x.1.2.length→0≤lb out t→lb (bfs x n 10000 0 (out.set i n,[(i:Int)])).1 t=lb out t)∧
    ∀ t,t<x.1.2.length→lb (bfs x n 10000 0 (out.set i n,[(i:Int)])).1 t=lb out t∨(lb (bfs x n 10000 0 (out.set i n,[(i:Int)])).1 t=n∧lb out t<0):=by
  have hlen:x.1.2.length≤8192:=g.fit.2.2.1
  have h0:Bf x out n i (out.set i n,[(i:Int)]):=by
    refine ⟨by rw [List.length_set];exact h.len,fun t ht=> ?_,fun t ht e=> ?_,fun t ht=> ?_,fun t ht=> ?_⟩
    · show lb (out.set i n) t=_∨(lb (out.set i n) t=n∧_)
      rw [lb_set (by rw [h.len];exact hi)]
      split
      · rename_i e;subst e;exact .inr ⟨rfl,by omega⟩
      · exact .inl rfl
    · have e:lb (out.set i n) t=n:=e
      rw [lb_set (by rw [h.len];exact hi)] at e
      split at e
      · rename_i e2;exact List.mem_singleton.2 (by omega)
      · have:=h.lt t ht;omega
    · rw [List.mem_singleton.1 ht]
      refine ⟨by omega,by omega,?_⟩
      show lb (out.set i n) _=n
      rw [lb_set (by rw [h.len];exact hi),if_pos (by omega)]
    · rw [List.mem_singleton.1 ht];exact .refl _
  obtain ⟨b,hs⟩:=bf_all g hn h.lt 10000 0 h0 (start_ok hn h.len hi hl) (Nat.zero_le _) (fun i hi=>by omega) (by omega)
  have hin : (i:Int)∈(bfs x n 10000 0 (out.set i n,[(i:Int)])).2:=by
    have key: ∀ (k j:Nat) (s:OS),(i:Int)∈s.2→(i:Int)∈(bfs x n k j s).2:=fun k=>by
      induction k with
      | zero=>exact fun j s h=>(by unfold bfs;exact h)
      | succ k ih =>
        intro j s hm
        unfold bfs
        split
        · refine ih _ _ ?_
          have: ∀ c,(i:Int)∈(irec (ofC x n j) s c).2:=fun c=>by
            induction c with
            | zero=>exact hm
            | succ c ih2 =>
              rw [ofC_s]
              generalize irec (ofC x n j) s c=S at ih2
              unfold ofC;split
              · exact List.mem_append_left _ ih2
              · exact ih2
          unfold ofJ
          exact this 3
        · exact hm
    exact key _ _ _ (List.mem_singleton.2 rfl)
  generalize bfs x n 10000 0 (out.set i n,[(i:Int)])=s at *
  have hold: ∀ t,t<x.1.2.length→0≤lb out t→lb s.1 t=lb out t:=fun t ht h0=>by
    rcases b.old t ht with e | e
    · exact e
    · omega
  refine ⟨⟨b.len,fun t ht=> ?_,fun t u ha h0=> ?_,fun t u ht hu h0 e=> ?_⟩,(b.qn _ hin).2.2,hold,b.old⟩
  · rcases b.old t ht with e | e
    · rw [e];have:=h.lt t ht;omega
    · rw [e.1];omega
  · obtain ⟨ht,hu⟩:=adj_lt g.toGood ha
    rcases b.old t ht with e | e
    · rw [e] at h0 ⊢
      have k:=h.clo t u ha h0
      rw [hold u hu (by rw [k];exact h0)];exact k
    · obtain ⟨idx,hidx,e2⟩:=List.mem_iff_getElem.1 (b.q t ht e.1)
      have hsu:0≤lb s.1 u:=hs idx hidx u (by rw [gdE,gE hidx];show Adj x (s.2[idx]).toNat u;rw [e2];exact ha)
      rcases b.old u hu with k | k
      · rw [k] at hsu
        have:=h.clo u t (g.adj_symm ha) hsu
        omega
      · rw [k.1,e.1]
  · rcases b.old t ht with k | k
    · rw [k] at h0 e
      rcases b.old u hu with k2 | k2
      · rw [k2] at e;exact h.con t u ht hu h0 e
      · have:=h.lt t ht;omega
    · rw [k.1] at e
      have c1:=b.con _ (b.q t ht k.1)
      have c2:=b.con _ (b.q u hu e.symm)
      exact Conn.trans (c1.symm fun _ _=>g.adj_symm) c2
theorem lab_all {x:tabE.T} (g:Full x): ∀ i,i≤x.1.2.length→Lab x (ofL x i).1 (ofL x i).2∧0≤(ofL x i).2∧∀ t,t<i→0≤lb (ofL x i).1 t
  | 0,_=>by
    have e: ∀ t,t<x.1.2.length→lb (ofL x 0).1 t= -1:=fun t ht=>by
      show (List.replicate x.1.2.length (-1:Int)).getD t 0= -1
      rw [gdE,List.getElem?_replicate,if_pos ht];rfl
    refine ⟨⟨List.length_replicate,fun t ht=> ?_,fun t u ha h0=> ?_,fun t u ht hu h0=> ?_⟩,Int.le_refl 0,fun t ht=>by omega⟩
    · rw [e t ht];show (-1:Int)<0;decide
    · rw [e t (adj_lt g.toGood ha).1] at h0;omega
    · rw [e t ht] at h0;omega
  | i + 1,hi=>by
    obtain ⟨h1,h2,h3⟩:=lab_all g i (by omega)
    show Lab x (ofI x (ofL x i) i).1 (ofI x (ofL x i) i).2∧0≤(ofI x (ofL x i) i).2∧∀ t,t<i+1→0≤lb (ofI x (ofL x i) i).1 t
    unfold ofI
    split
    · rename_i h
      refine ⟨h1,h2,fun t ht=> ?_⟩
      by_cases e:t=i
      · subst e;exact h
      · exact h3 t (by omega)
    · rename_i h
      obtain ⟨k1,k2,k3,_⟩:=lab_next g h2 h1 (by omega) h
      refine ⟨k1,by show 0≤(ofL x i).2+1;omega,fun t ht=> ?_⟩
      by_cases e:t=i
      · subst e
        show 0≤lb (bfs x _ _ _ _).1 t
        rw [k2];exact h2
      · show 0≤lb (bfs x _ _ _ _).1 t
        rw [k3 t (by omega) (h3 t (by omega))];exact h3 t (by omega)
theorem shell_iff {x:tabE.T} (g:Full x) {t u:Nat} (ht:t<x.1.2.length) (hu:u<x.1.2.length):(ofR x).getD t 0=(ofR x).getD u 0↔Conn (Adj x) t u:=by
  obtain ⟨h1,h2,h3⟩:=lab_all g x.1.2.length (Nat.le_refl _)
  constructor
  · exact fun e=>h1.con t u ht hu (h3 t ht) e
  · intro h
    clear hu
    induction h with
    | refl=>rfl
    | step _ a ih =>
      have hb:=(adj_lt g.toGood a).1
      rw [ih]
      exact (h1.clo _ _ a (h3 _ hb)).symm
end S1
open Go Go.Vm Go.Proofs
namespace S1
theorem tg_inj {l:List P3} (hn:l.Nodup) {i j:Nat} (hi:i<l.length) (hj:j<l.length) (e:tg l i=tg l j):i=j:=by
  unfold tg at e
  rw [gdE,gdE,gE hi,gE hj] at e
  have e:l[i]=l[j]:=e
  have key: ∀ p q (hp:p<l.length) (hq:q<l.length),p<q→l[p]≠l[q]:=fun p q hp hq h=>List.pairwise_iff_getElem.1 hn p q hp hq h
  rcases Nat.lt_trichotomy i j with h | h | h
  · exact absurd e (key i j hi hj h)
  · exact h
  · exact absurd e.symm (key j i hj hi h)
theorem pinM_iff {l:List P3} (hn:l.Nodup) {v:Int} :PinP l v↔PinM l v:=by
  constructor
  · intro h Q hQ t ht tv hq u hu uv
    obtain ⟨i,hi,ei⟩:=mem_tg ht
    obtain ⟨j,hj,ej⟩:=mem_tg hu
    have:=h (fun k=>Q (tg l k)) (fun p q hp hq pv qv hw k=>hQ _ (tg_mem hp) _ (tg_mem hq) pv qv hw k) i hi (by rw [ei];exact tv) (by show Q (tg l i);rw [ei];exact hq) j hj (by rw [ej];exact uv)
    have this:Q (tg l j):=this
    rw [ej] at this;exact this
  · intro h Q hQ i hi iv hq j hj jv
    obtain ⟨k,hk,ek,qk⟩:=h (fun t=> ∃ i,i<l.length∧tg l i=t∧Q i) (fun t ht u hu tv uv hw ⟨p,hp,ep,qp⟩=>by
      obtain ⟨q,hq,eq⟩:=mem_tg hu
      refine ⟨q,hq,eq,hQ p q hp hq (by show hasV (tg l p) v;rw [ep];exact tv) (by show hasV (tg l q) v;rw [eq];exact uv) ?_ qp⟩
      obtain ⟨w,w1,w2,w3⟩:=hw
      exact ⟨w,w1,by show hasV (tg l p) w;rw [ep];exact w2,by show hasV (tg l q) w;rw [eq];exact w3⟩) _ (tg_mem hi) iv ⟨i,hi,rfl,hq⟩ _ (tg_mem hj) jv
    rw [← tg_inj hn hk hj ek];exact qk
abbrev InN (n:Int):Int→Prop:=fun v=>0≤v∧v<n
theorem surfM_of {s:Int×List P3} (h:Surf s):SurfM (InN s.1) s.2:=by
  have hn:s.2.Nodup:=by
    refine List.pairwise_iff_getElem.2 fun i j hi hj hij e=> ?_
    obtain ⟨w,hw⟩:=has_dE (t:=tg s.2 i) (.inl rfl)
    refine h.dif i j hij hj _ _ hw ?_
    have:tg s.2 i=tg s.2 j:=by
      unfold tg
      rw [gdE,gdE,gE hi,gE hj]
      exact e
    rw [← this];exact hw
  have two: ∀ t∈s.2,∀ u∈s.2,t≠u→∃ i j,i<s.2.length∧j<s.2.length∧i≠j∧tg s.2 i=t∧tg s.2 j=u:=fun t ht u hu hne=>by
    obtain ⟨i,hi,ei⟩:=mem_tg ht
    obtain ⟨j,hj,ej⟩:=mem_tg hu
    exact ⟨i,j,hi,hj,fun e=>hne (by rw [← ei,← ej,e]),ei,ej⟩
  refine ⟨hn,fun t ht v hv=> ?_,fun t ht=> ?_,fun t ht u hu hne a b h1 h2=> ?_,fun t ht u hu hne hh=> ?_,fun v hv=> ?_,fun v hv=> ?_⟩
  · obtain ⟨i,hi,ei⟩:=mem_tg ht
    exact fit_hasV h.fit hi (by rw [ei];exact hv)
  · obtain ⟨i,hi,ei⟩:=mem_tg ht
    rw [← ei];exact h.deg i hi
  · obtain ⟨i,j,hi,hj,hij,ei,ej⟩:=two t ht u hu hne
    rw [← ei] at h1;rw [← ej] at h2
    rcases Nat.lt_or_gt_of_ne hij with k | k
    · exact h.dif i j k hj a b h1 h2
    · exact h.dif j i k hi a b h2 h1
  · obtain ⟨i,j,hi,hj,hij,ei,ej⟩:=two t ht u hu hne
    rcases Nat.lt_or_gt_of_ne hij with k | k
    · rw [← ei,← ej] at hh;exact h.mir i j k hj hh
    · -- the other way round: three vertices each
      have hd:=h.deg i hi
      rw [ei] at hd
      have hd2:=h.deg j hj
      rw [ej] at hd2
      have key:hasV t u.1∧hasV t u.2.1∧hasV t u.2.2:=by
        obtain ⟨x,y,z⟩:=t
        obtain ⟨p,q,r⟩:=u
        unfold hasV at *
        unfold dgn at *
        simp only at *
        omega
      rw [← ei,← ej] at key
      exact h.mir j i k hi key
  · obtain ⟨j,hj,hv2⟩:=h.use v.toNat (by rw [Int.toNat_of_nonneg hv.1];exact hv.2)
    rw [Int.toNat_of_nonneg hv.1] at hv2
    exact ⟨_,tg_mem hj,hv2⟩
  · have:=h.pin v.toNat (by rw [Int.toNat_of_nonneg hv.1];exact hv.2)
    rw [Int.toNat_of_nonneg hv.1] at this
    exact (pinM_iff hn).1 this
theorem surf_ofM {n:Int} {l:List P3} (h0:0≤n) (h1:n≤4096) (h2:l.length≤8192) (h:SurfM (InN n) l):Surf (n,l):=by
  refine ⟨⟨h0,h1,h2,fun i hi=> ?_⟩,fun i hi=>h.deg _ (tg_mem hi),fun i j hij hj a b k1 k2=> ?_,fun i j hij hj hh=> ?_,fun v hv=> ?_,fun v hv=> ?_⟩
  · have e1:=h.ent (tg l i) (tg_mem hi) _ (.inl rfl)
    have e2:=h.ent (tg l i) (tg_mem hi) _ (.inr (.inl rfl))
    have e3:=h.ent (tg l i) (tg_mem hi) _ (.inr (.inr rfl))
    show triIn n (tg l i)=true
    refine tri_good ?_
    unfold InN at e1 e2 e3
    omega
  · have hj:j<l.length:=hj
    exact h.dif _ (tg_mem (show i<l.length by omega)) _ (tg_mem hj) (fun e=>by have:=tg_inj h.nd (show i<l.length by omega) hj e;omega) a b k1 k2
  · have hj:j<l.length:=hj
    exact h.mir _ (tg_mem (show i<l.length by omega)) _ (tg_mem hj) (fun e=>by have:=tg_inj h.nd (show i<l.length by omega) hj e;omega) hh
  · have hv:(v:Int)<n:=hv
    obtain ⟨t,ht,tv⟩:=h.use v ⟨by omega,hv⟩
    obtain ⟨j,hj,ej⟩:=mem_tg ht
    exact ⟨j,hj,by show hasV (tg l j) v;rw [ej];exact tv⟩
  · have hv:(v:Int)<n:=hv
    exact (pinM_iff h.nd).2 (h.pin v ⟨by omega,hv⟩)
def mapT (r:Int→Int) (t:P3):P3:=(r t.1,r t.2.1,r t.2.2)
theorem mapT_hasV {r:Int→Int} {t:P3} {u:Int} :hasV (mapT r t) u↔∃ v,hasV t v∧r v=u:=by
  constructor
  · rintro (e | e | e)
    · exact ⟨_,.inl rfl,e⟩
    · exact ⟨_,.inr (.inl rfl),e⟩
    · exact ⟨_,.inr (.inr rfl),e⟩
  · rintro ⟨v,e | e | e,rfl⟩
    · exact .inl (by rw [← e];rfl)
    · exact .inr (.inl (by rw [← e];rfl))
    · exact .inr (.inr (by rw [← e];rfl))
theorem mapT_dE {r:Int→Int} {t:P3} {p q:Int} :dE (mapT r t) p q↔∃ p0 q0,dE t p0 q0∧r p0=p∧r q0=q:=by
  constructor
  · rintro (⟨e1,e2⟩ | ⟨e1,e2⟩ | ⟨e1,e2⟩)
    · exact ⟨_,_,.inl ⟨rfl,rfl⟩,e1,e2⟩
    · exact ⟨_,_,.inr (.inl ⟨rfl,rfl⟩),e1,e2⟩
    · exact ⟨_,_,.inr (.inr ⟨rfl,rfl⟩),e1,e2⟩
  · rintro ⟨p0,q0,⟨e1,e2⟩ | ⟨e1,e2⟩ | ⟨e1,e2⟩,rfl,rfl⟩
    · exact .inl ⟨by rw [← e1];rfl,by rw [← e2];rfl⟩
    · exact .inr (.inl ⟨by rw [← e1];rfl,by rw [← e2];rfl⟩)
    · exact .inr (.inr ⟨by rw [← e1];rfl,by rw [← e2];rfl⟩)
theorem surfM_map {V W:Int→Prop} {l:List P3} (h:SurfM V l) (r:Int→Int) (hr: ∀ v,V v→W (r v)) (hi: ∀ v w,V v→V w→r v=r w→v=w) (ho: ∀ u,W u→∃ v,V v∧r v=u):SurfM W (l.map (mapT r)):=by
  have inj: ∀ t∈l,∀ u∈l,mapT r t=mapT r u→t=u:=fun t ht u hu e=>by
    have e1:=congrArg Prod.fst e
    have e2:=congrArg (fun p=>p.2.1) e
    have e3:=congrArg (fun p=>p.2.2) e
    exact Prod.ext (hi _ _ (h.ent t ht _ (.inl rfl)) (h.ent u hu _ (.inl rfl)) e1) (Prod.ext (hi _ _ (h.ent t ht _ (.inr (.inl rfl))) (h.ent u hu _ (.inr (.inl rfl))) e2) (hi _ _ (h.ent t ht _ (.inr (.inr rfl))) (h.ent u hu _ (.inr (.inr rfl))) e3))
  have back: ∀ {t:P3} {v:Int},t∈l→V v→(hasV (mapT r t) (r v)↔hasV t v):=fun {t v} ht hv=>by
    rw [mapT_hasV]
    exact ⟨fun ⟨w,hw,e⟩=>by rw [← hi w v (h.ent t ht w hw) hv e];exact hw,fun k=>⟨v,k,rfl⟩⟩
  refine ⟨?_,fun t' ht' u hu=> ?_,fun t' ht'=> ?_,fun t' ht' u' hu' hne p q h1 h2=> ?_,fun t' ht' u' hu' hne hh=> ?_,fun u hu=> ?_,fun u hu=> ?_⟩
  · exact List.Pairwise.map _ (fun t u hh e=>hh.1 (inj t hh.2.1 u hh.2.2 e)) (h.nd.imp_of_mem (S:=fun t u=>t≠u∧t∈l∧u∈l) fun ht hu hn=>⟨hn,ht,hu⟩)
  · obtain ⟨t,ht,rfl⟩:=List.mem_map.1 ht'
    obtain ⟨v,hv,rfl⟩:=mapT_hasV.1 hu
    exact hr v (h.ent t ht v hv)
  · obtain ⟨t,ht,rfl⟩:=List.mem_map.1 ht'
    have hd:=h.deg t ht
    rintro (e | e | e)
    · exact hd (.inl (hi _ _ (h.ent t ht _ (.inl rfl)) (h.ent t ht _ (.inr (.inl rfl))) e))
    · exact hd (.inr (.inl (hi _ _ (h.ent t ht _ (.inr (.inl rfl))) (h.ent t ht _ (.inr (.inr rfl))) e)))
    · exact hd (.inr (.inr (hi _ _ (h.ent t ht _ (.inr (.inr rfl))) (h.ent t ht _ (.inl rfl)) e)))
  · obtain ⟨t,ht,rfl⟩:=List.mem_map.1 ht'
    obtain ⟨u,hu,rfl⟩:=List.mem_map.1 hu'
    obtain ⟨p0,q0,d0,e1,e2⟩:=mapT_dE.1 h1
    obtain ⟨p1,q1,d1,e3,e4⟩:=mapT_dE.1 h2
    have k1:=hi _ _ (h.ent t ht _ (dE_hasV d0).1) (h.ent u hu _ (dE_hasV d1).1) (e1.trans e3.symm)
    have k2:=hi _ _ (h.ent t ht _ (dE_hasV d0).2) (h.ent u hu _ (dE_hasV d1).2) (e2.trans e4.symm)
    rw [← k1,← k2] at d1
    exact h.dif t ht u hu (fun e=>hne (by rw [e])) _ _ d0 d1
  · obtain ⟨t,ht,rfl⟩:=List.mem_map.1 ht'
    obtain ⟨u,hu,rfl⟩:=List.mem_map.1 hu'
    exact h.mir t ht u hu (fun e=>hne (by rw [e])) ⟨(back hu (h.ent t ht _ (.inl rfl))).1 hh.1,(back hu (h.ent t ht _ (.inr (.inl rfl)))).1 hh.2.1,(back hu (h.ent t ht _ (.inr (.inr rfl)))).1 hh.2.2⟩
  · obtain ⟨v,hv,rfl⟩:=ho u hu
    obtain ⟨t,ht,tv⟩:=h.use v hv
    exact ⟨_,List.mem_map.2 ⟨t,ht,rfl⟩,(back ht hv).2 tv⟩
  · obtain ⟨v,hv,rfl⟩:=ho u hu
    intro Q hQ t' ht' tv' hq u' hu' uv'
    obtain ⟨t,ht,rfl⟩:=List.mem_map.1 ht'
    obtain ⟨u,hu,rfl⟩:=List.mem_map.1 hu'
    refine h.pin v hv (fun s=>Q (mapT r s)) (fun s hs q hq2 sv qv ⟨w,wv,sw,qw⟩ k=> ?_) t ht ((back ht hv).1 tv') hq u hu ((back hu hv).1 uv')
    exact hQ _ (List.mem_map.2 ⟨s,hs,rfl⟩) _ (List.mem_map.2 ⟨q,hq2,rfl⟩) ((back hs hv).2 sv) ((back hq2 hv).2 qv) ⟨r w,fun e=>wv (hi _ _ (h.ent s hs w sw) hv e),mapT_hasV.2 ⟨w,sw,rfl⟩,mapT_hasV.2 ⟨w,qw,rfl⟩⟩ k
def dn (a v:Int):Int:=if v>a then v - 1 else v
theorem dn_map {n a:Int} (ha:0≤a∧a<n) {l:List P3} (h:SurfM (fun v=>InN n v∧v≠a) l):SurfM (InN (n - 1)) (l.map (mapT (dn a))):=by
  refine surfM_map h (dn a) (fun v hv=> ?_) (fun v w hv hw e=> ?_) fun u hu=> ?_
  · obtain ⟨hv,hne⟩:=hv
    unfold InN at *
    unfold dn;split<;>omega
  · have h1:=hv.2;have h2:=hw.2
    unfold dn at e;split at e<;>split at e<;>omega
  · unfold InN at hu
    by_cases k:u≥a
    · exact ⟨u+1,⟨⟨by omega,by omega⟩,by omega⟩,by unfold dn;rw [if_pos (by omega)];omega⟩
    · exact ⟨u,⟨⟨by omega,by omega⟩,by omega⟩,by unfold dn;rw [if_neg (by omega)]⟩
end S1
open Go Go.Vm Go.Proofs
namespace S1
theorem why_0 {x:tabE.T} {a b:Int} (h:whyR x a b=0):nearR x a b=true∧¬ ((facR x a b).length=2∧innerR x a=false∧innerR x b=false)∧smallR x a=false:=by
  unfold whyR at h
  split at h
  · cases h
  · rename_i h1
    split at h
    · cases h
    · rename_i h2
      split at h
      · cases h
      · split at h
        · cases h
        · rename_i h4
          exact ⟨by simpa using h1,h2,by simpa using h4⟩
theorem face_iff {x:tabE.T} (g:Full x) {a b:Int} :tFacing x (a,b)≥0↔eE x.1.2 a b:=by
  rw [eE_iff]
  constructor
  · intro h
    unfold tFacing at h
    cases e:mget .arr2 x.2.1 (a,b) with
    | none=>rw [e] at h;exact absurd h (by decide)
    | some c=>exact ⟨c,g.map _ _ e⟩
  · rintro ⟨d,h1,h2⟩
    rw [← h2,g.facing h1];exact (tHas_iff.1 h1).1
theorem face_two {x:tabE.T} (g:Full x) {a b:Int} (h1:eE x.1.2 a b) (h2:eE x.1.2 b a):(facR x a b).length=2:=by
  unfold facR
  rw [if_pos ((face_iff g).2 h1),if_pos ((face_iff g).2 h2)];rfl
theorem two_dE {t:P3} {a b:Int} (hab:a≠b) (h1:hasV t a) (h2:hasV t b):dE t a b∨dE t b a:=by
  obtain ⟨x,y,z⟩:=t
  unfold hasV at h1 h2;unfold dE
  simp only at *
  rcases h1 with e1 | e1 | e1<;>rcases h2 with e2 | e2 | e2<;>first | (exfalso;omega) | (subst e1 e2;simp)
theorem dE_anti {t:P3} (hd: ¬ dgn t) {a b:Int} (h1:dE t a b) (h2:dE t b a):False:=by
  unfold dgn at hd;unfold dE at h1 h2;omega
theorem near_has {x:tabE.T} (g:Full x) {a v:Int} (hav:a≠v):nearR x a v=true↔∃ t∈x.1.2,hasV t a∧hasV t v:=by
  rw [near_iff g]
  constructor
  · rintro ⟨d,d1,d2⟩
    have k:=cor_dE d1
    refine ⟨_,tg_mem k.1,?_⟩
    have:=dE_hasV k.2
    rcases d2 with e | e
    · rw [e] at this;exact this
    · rw [e] at this;exact this.symm
  · rintro ⟨t,ht,h1,h2⟩
    rcases two_dE hav h1 h2 with e | e
    · obtain ⟨d,d1,d2⟩:=eE_iff.1 (eE_mem.2 ⟨t,ht,e⟩)
      exact ⟨d,d1,.inl d2⟩
    · obtain ⟨d,d1,d2⟩:=eE_iff.1 (eE_mem.2 ⟨t,ht,e⟩)
      exact ⟨d,d1,.inr d2⟩
theorem fac_tri {x:tabE.T} (g:Full x) {a b v:Int} (h:v∈facR x a b): ∃ t∈x.1.2,hasV t a∧hasV t b∧hasV t v:=by
  have key: ∀ {p q:Int},tFacing x (p,q)≥0→tVert x (tFacing x (p,q))=v→∃ t∈x.1.2,hasV t p∧hasV t q∧hasV t v:=fun {p q} h1 h2=>by
    unfold tFacing at h1 h2
    cases e:mget .arr2 x.2.1 (p,q) with
    | none=>rw [e] at h1;exact absurd h1 (by decide)
    | some c =>
      rw [e] at h2
      have h2:tVert x c=v:=h2
      obtain ⟨k1,k2⟩:=g.map _ _ e
      have k:=cor_dE k1
      rw [k2] at k
      have kv:=cor_tri k1
      rw [h2] at kv
      exact ⟨_,tg_mem k.1,(dE_hasV k.2).1,(dE_hasV k.2).2,kv.2⟩
  unfold facR at h
  rcases List.mem_append.1 h with h | h
  · split at h
    · exact key (by assumption) (List.mem_singleton.1 h).symm
    · cases h
  · split at h
    · obtain ⟨t,ht,h1,h2,h3⟩:=key (by assumption) (List.mem_singleton.1 h).symm
      exact ⟨t,ht,h2,h1,h3⟩
    · cases h
theorem adj_iff {x:tabE.T} (g:Full x) {i j:Nat} :Adj x i j↔i<x.1.2.length∧j<x.1.2.length∧∃ p q,dE (tg x.1.2 i) p q∧dE (tg x.1.2 j) q p:=by
  constructor
  · rintro ⟨c,c1,c2,c3,c4⟩
    obtain ⟨k1,k2,k3,k4⟩:=g.opp_v (c:=c) c3
    have e1:=cor_dE c1
    have e2:=cor_dE k2
    rw [c2] at e1
    rw [c4] at e2
    refine ⟨e1.1,e2.1,(tEdge x c).1,(tEdge x c).2,e1.2,?_⟩
    have e3:tEdge x (tOpp x c)=((tEdge x c).2,(tEdge x c).1):=Prod.ext k3 k4
    rw [e3] at e2
    exact e2.2
  · rintro ⟨hi,hj,p,q,h1,h2⟩
    obtain ⟨c,c1,c2,c3⟩:=dE_cor hi h1
    obtain ⟨d,d1,d2,d3⟩:=dE_cor hj h2
    have e:tOpp x c=d:=g.opp_is d1 (by rw [c2,d2])
    exact ⟨c,c1,c3,by rw [e];exact (tHas_iff.1 d1).1,by rw [e];exact d3⟩
theorem vert_lab {x:tabE.T} (g:Full x) {i j:Nat} (hi:i<x.1.2.length) (hj:j<x.1.2.length) {v:Int} (h1:hasV (tg x.1.2 i) v) (h2:hasV (tg x.1.2 j) v) (hs:SurfM (InN x.1.1) x.1.2):Conn (Adj x) i j:=by
  have hv:=hs.ent _ (tg_mem hi) v h1
  refine (pinM_iff hs.nd).2 (hs.pin v hv) (fun k=>Conn (Adj x) i k) (fun p q hp hq pv qv ⟨w,wv,pw,qw⟩ k=> ?_) i hi h1 (.refl _) j hj h2
  by_cases e:p=q
  · subst e;exact k
  · refine .step k ((adj_iff g).2 ⟨hp,hq,?_⟩)
    have ne:tg x.1.2 p≠tg x.1.2 q:=fun e'=>e (tg_inj hs.nd hp hq e')
    rcases two_dE wv pw pv with a | a<;>rcases two_dE wv qw qv with b | b
    · exact absurd b (hs.dif _ (tg_mem hp) _ (tg_mem hq) ne _ _ a)
    · exact ⟨_,_,a,b⟩
    · exact ⟨_,_,a,b⟩
    · exact absurd b (hs.dif _ (tg_mem hp) _ (tg_mem hq) ne _ _ a)
theorem smS_cnt (x:tabE.T) (m:Int): ∀ k,(smS x m k).1=(((List.range k).filter fun i=>decide ((ofR x).getD i 0=m)).length:Int)
  | 0=>rfl
  | k +1=>by
    rw [List.range_succ,List.filter_append]
    by_cases h:(ofR x).getD k 0=m
    · rw [smS_yes h]
      show (smS x m k).1+1=_
      rw [smS_cnt x m k,List.filter_cons_of_pos (by simpa using h)]
      simp
    · rw [smS_no h,smS_cnt x m k,List.filter_cons_of_neg (by simpa using h)]
      simp
theorem smC_flag (x:tabE.T) (i:Nat) (b:Bool): ∀ c,irec (smC x i) b c=true↔b=true∨∃ d:Nat,d<c∧tOpp x (3*i+d)<0
  | 0=>⟨.inl,fun h=>by rcases h with h | ⟨d,h,_⟩;exact h;omega⟩
  | c + 1=>by
    rw [smC_s,Bool.or_eq_true,smC_flag x i b c,decide_eq_true_eq]
    constructor
    · rintro ((h | ⟨d,h1,h2⟩) | h)
      · exact .inl h
      · exact .inr ⟨d,by omega,h2⟩
      · exact .inr ⟨c,by omega,h⟩
    · rintro (h | ⟨d,h1,h2⟩)
      · exact .inl (.inl h)
      · by_cases e:d=c
        · subst e;exact .inr h2
        · exact .inl (.inr ⟨d,by omega,h2⟩)
theorem smS_flag (x:tabE.T) (m:Int): ∀ k,(smS x m k).2=true↔∃ i,i<k∧(ofR x).getD i 0=m∧∃ d:Nat,d<3∧tOpp x (3*i+d)<0
  | 0=>⟨fun h=>(by cases h),fun ⟨i,h,_⟩=>by omega⟩
  | k + 1=>by
    by_cases h:(ofR x).getD k 0=m
    · rw [smS_yes h]
      show irec (smC x k) (smS x m k).2 3=true↔_
      rw [smC_flag,smS_flag x m k]
      constructor
      · rintro (⟨i,h1,h2⟩ | h1)
        · exact ⟨i,by omega,h2⟩
        · exact ⟨k,by omega,h,h1⟩
      · rintro ⟨i,h1,h2,h3⟩
        by_cases e:i=k
        · subst e;exact .inr h3
        · exact .inl ⟨i,by omega,h2,h3⟩
    · rw [smS_no h,smS_flag x m k]
      constructor
      · rintro ⟨i,h1,h2⟩;exact ⟨i,by omega,h2⟩
      · rintro ⟨i,h1,h2,h3⟩
        refine ⟨i,?_,h2,h3⟩
        by_cases e:i=k
        · subst e;exact absurd h2 h
        · omega
theorem len_subN (k l:List Nat) (hn:k.Nodup) (h: ∀ i∈k,i∈l):k.length≤l.length:=by
  have:=len_sub (k.map fun i=>((i:Nat):Int)) (l.map fun i=>((i:Nat):Int)) (List.Pairwise.map _ (fun i j hij e=>hij (by omega)) hn) fun v hv=>by
    obtain ⟨i,hi,rfl⟩:=List.mem_map.1 hv
    exact List.mem_map.2 ⟨i,h i hi,rfl⟩
  simpa using this
theorem shell_cnt {x:tabE.T} (g:Full x) (hs:SurfM (InN x.1.1) x.1.2) {a:Int} (ha:InN x.1.1 a) {S:List Nat} (hn:S.Nodup) {i0:Nat} (h0:i0∈S) (hv:hasV (tg x.1.2 i0) a) (hl: ∀ i∈S,i<x.1.2.length) (hc: ∀ i∈S,∀ j,Adj x i j→j∈S) (hk: ∀ i∈S,Conn (Adj x) i0 i) :
    (smS x (smM x a) (ofR x).length).1=(S.length:Int)∧∀ i,i<x.1.2.length→((ofR x).getD i 0=smM x a↔i∈S):=by
  have hlen:=ofR_len g.toGood
  obtain ⟨c1,c2⟩:=g.vtx a ha.1 ha.2
  have kt:=cor_tri c1
  rw [c2] at kt
  have hlab:(ofR x).getD i0 0=smM x a:=by
    unfold smM
    exact (shell_iff g (hl _ h0) kt.1).2 (vert_lab g (hl _ h0) kt.1 hv kt.2 hs)
  have hmem: ∀ i,i<x.1.2.length→((ofR x).getD i 0=smM x a↔i∈S):=fun i hi=>by
    rw [← hlab,eq_comm,shell_iff g (hl _ h0) hi]
    constructor
    · intro k
      induction k with
      | refl=>exact h0
      | step _ a ih=>exact hc _ (ih (adj_lt g.toGood a).1) _ a
    · exact fun k=>hk i k
  refine ⟨?_,hmem⟩
  rw [smS_cnt,hlen]
  have e:((List.range x.1.2.length).filter fun i=>decide ((ofR x).getD i 0=smM x a)).length=S.length:=by
    apply Nat.le_antisymm
    · refine len_subN _ _ (List.nodup_range.sublist List.filter_sublist) fun i hi=> ?_
      obtain ⟨k1,k2⟩:=List.mem_filter.1 hi
      exact (hmem i (List.mem_range.1 k1)).1 (by simpa using k2)
    · refine len_subN _ _ hn fun i hi=>List.mem_filter.2 ⟨List.mem_range.2 (hl i hi),by simpa using (hmem i (hl i hi)).2 hi⟩
  rw [e]
end S1
open Go Go.Vm Go.Proofs
namespace S1
theorem next_t {x:tabE.T} {d:Int} (h:tHas x d=true):(tNext x d / 3).toNat=(d / 3).toNat:=by
  rw [tNext_t h];unfold trn;omega
theorem prev_t {x:tabE.T} {d:Int} (h:tHas x d=true):(tPrev x d / 3).toNat=(d / 3).toNat:=by
  rw [tPrev_t h];unfold trn;omega
theorem rot {x:tabE.T} (g:Full x) {c d:Int} (hin:innerR x c=true) {s1 s2:P3} (h1:s1∈x.1.2) (h2:s2∈x.1.2) (e1:dE s1 d c) (e2:dE s2 c d) (Q:P3→Prop)
    (hQ: ∀ s∈x.1.2,∀ r∈x.1.2,hasV s c→hasV r c→(∃ w:Int,w≠c∧w≠d∧hasV s w∧hasV r w)→Q s→Q r):Q s1↔Q s2:=by
  have hno:=((inner_iff g).1 hin).2
  obtain ⟨i1,hi1,rfl⟩:=mem_tg h1
  obtain ⟨i2,hi2,rfl⟩:=mem_tg h2
  obtain ⟨p1,a1,a2,a3⟩:=dE_cor hi1 e1
  obtain ⟨p2,b1,b2,b3⟩:=dE_cor hi2 e2
  have y1h:=(hasNP a1).2
  have y2h:=(hasNP b1).1
  have y1v:tVert x (tPrev x p1)=c:=congrArg Prod.snd a2
  have y1p:tVert x (tPrev x (tPrev x p1))=d:=by rw [(np a1).2.2.2];exact congrArg Prod.fst a2
  have y2v:tVert x (tNext x p2)=c:=congrArg Prod.fst b2
  have y2n:tVert x (tNext x (tNext x p2))=d:=by rw [(np b1).2.2.1];exact congrArg Prod.snd b2
  have y1t:(tPrev x p1 / 3).toNat=i1:=by rw [prev_t a1,a3]
  have y2t:(tNext x p2 / 3).toNat=i2:=by rw [next_t b1,b3]
  have hy:=g.after_is y1h y2h (y2v.trans y1v.symm) (y2n.trans y1p.symm)
  generalize tPrev x p1=y1 at *
  generalize tNext x p2=y2 at *
  have aft: ∀ y,tHas x y=true→tVert x y=c→0≤tAfter x y∧tHas x (tAfter x y)=true∧tVert x (tAfter x y)=c:=fun y k1 k2=>by
    have h0:0≤tAfter x y:=by
      refine Int.not_lt.1 fun hlt=> ?_
      have:=last_bE g k1 hlt
      rw [k2] at this
      exact hno ⟨_,this⟩
    exact ⟨h0,(g.toGood.after_has h0).2.1,(g.toGood.after_v h0).1.trans k2⟩
  have zk: ∀ y,tHas x y=true→tVert x y=c→∀ k,tHas x (iter (tAfter x) y k)=true∧tVert x (iter (tAfter x) y k)=c:=fun y k1 k2 k=>by
    induction k with
    | zero=>exact ⟨k1,k2⟩
    | succ k ih=>have:=aft _ ih.1 ih.2;exact ⟨this.2.1,this.2.2⟩
  have hex: ∃ n,iter (tAfter x) y2 n=y1:=by
    apply Classical.byContradiction
    intro hn
    have:FInv (tAfter x) y1 24577:=fun j j1 j2=>by
      obtain ⟨j,rfl⟩: ∃ j',j=j'+1:=⟨j - 1,by omega⟩
      have k:=zk y1 y1h y1v j
      refine ⟨(aft _ k.1 k.2).1,fun e=>hn ⟨j,?_⟩⟩
      rw [← hy]
      have:=iter_add (tAfter x) y1 1 j
      have this:iter (tAfter x) (tAfter x y1) j=iter (tAfter x) y1 (1+j):=this
      rw [this,Nat.add_comm];exact e
    have:=fin_after g.toGood this
    omega
  obtain ⟨n,hn⟩:=hex
  obtain ⟨m,m1,_,m3⟩:=exists_least (P:=fun n=>iter (tAfter x) y2 n=y1) hn
  have step: ∀ k,k<m→(Q (tg x.1.2 (iter (tAfter x) y2 k / 3).toNat)↔Q (tg x.1.2 (iter (tAfter x) y2 (k+1) / 3).toNat)):=fun k hk=>by
    obtain ⟨k1,k2⟩:=zk y2 y2h y2v k
    obtain ⟨l1,l2⟩:=zk y2 y2h y2v (k+1)
    have ha:=(aft _ k1 k2).1
    have hv:=(g.toGood.after_v ha).2
    have hv:tVert x (tNext x (iter (tAfter x) y2 (k+1)))=tVert x (tPrev x (iter (tAfter x) y2 k)):=hv
    have wc:tVert x (tPrev x (iter (tAfter x) y2 k))≠c:=fun e=>(g.toGood.ne k1).2.1 (k2.trans e.symm)
    have wd:tVert x (tPrev x (iter (tAfter x) y2 k))≠d:=fun e=>m3 k hk (g.toGood.sameP k1 y1h (k2.trans y1v.symm) (e.trans y1p.symm))
    have t1:=cor_tri k1
    have t2:=cor_tri l1
    have p1:=cor_tri (hasNP k1).2
    have n1:=cor_tri (hasNP l1).1
    rw [prev_t k1] at p1
    rw [next_t l1,hv] at n1
    rw [k2] at t1
    rw [l2] at t2
    exact ⟨hQ _ (tg_mem t1.1) _ (tg_mem t2.1) t1.2 t2.2 ⟨_,wc,wd,p1.2,n1.2⟩,hQ _ (tg_mem t2.1) _ (tg_mem t1.1) t2.2 t1.2 ⟨_,wc,wd,n1.2,p1.2⟩⟩
  have all: ∀ k,k≤m→(Q (tg x.1.2 (y2 / 3).toNat)↔Q (tg x.1.2 (iter (tAfter x) y2 k / 3).toNat)):=fun k=>by
    induction k with
    | zero=>exact fun _=>Iff.rfl
    | succ k ih=>exact fun hk=>(ih (by omega)).trans (step k (by omega))
  have:=all m (Nat.le_refl _)
  rw [m1,y1t,y2t] at this
  exact this.symm
theorem four {t:P3} (hd: ¬ dgn t) {a b p q:Int} (h1:a≠b) (h2:a≠p) (h3:a≠q) (h4:b≠p) (h5:b≠q) (h6:p≠q) (k1:hasV t a) (k2:hasV t b) (k3:hasV t p) (k4:hasV t q):False:=by
  obtain ⟨r,_,_,_,e⟩:=third hd h1 k1 k2
  rcases e p k3 with e1 | e1 | e1
  · exact h2 e1.symm
  · exact h4 e1.symm
  · rcases e q k4 with e2 | e2 | e2
    · exact h3 e2.symm
    · exact h5 e2.symm
    · exact h6 (e1.trans e2.symm)
section
variable {x:tabE.T} {a b:Int}
theorem free_lone (g:Full x) (hs:SurfM (InN x.1.1) x.1.2) (hw:whyR x a b=0) (hab:a≠b): ∀ t∈x.1.2,hasV t a→hasV t b→∀ v,v≠a→v≠b→hasV t v→∃ u∈x.1.2,u≠t∧hasV u v∧(hasV u a∨hasV u b):=by
  intro t ht ta tb v va vb tv
  apply Classical.byContradiction
  intro hn
  have hno: ∀ u∈x.1.2,hasV u v→(hasV u a∨hasV u b)→u=t:=fun u hu uv uab=>Classical.byContradiction fun e=>hn ⟨u,hu,e,uv,uab⟩
  obtain ⟨w1,w2,w3⟩:=why_0 hw
  have hd:=hs.deg t ht
  -- it stands alone
  have main : ∀ p q:Int,((p=a∧q=b)∨(p=b∧q=a))→dE t p q→dE t q v→dE t v p→False:=fun p q hpq o1 o2 o3=>by
    have pab: ∀ {u:P3} {w:Int},(w=p∨w=q)→hasV u w→hasV u a∨hasV u b:=fun {u w} h1 h2=>by
      rcases hpq with ⟨e1,e2⟩ | ⟨e1,e2⟩<;>rcases h1 with e | e<;>(subst e;subst e1;subst e2;first | exact .inl h2 | exact .inr h2)
    have no1: ¬ eE x.1.2 v q:=fun h=>by
      obtain ⟨u,hu,k⟩:=eE_mem.1 h
      have:=hno u hu (dE_hasV k).1 (pab (.inr rfl) (dE_hasV k).2)
      rw [this] at k;exact dE_anti hd o2 k
    have no2: ¬ eE x.1.2 p v:=fun h=>by
      obtain ⟨u,hu,k⟩:=eE_mem.1 h
      have:=hno u hu (dE_hasV k).2 (pab (.inl rfl) (dE_hasV k).1)
      rw [this] at k;exact dE_anti hd o3 k
    have yes: ∀ {u w:Int},dE t u w→eE x.1.2 u w:=fun k=>eE_mem.2 ⟨t,ht,k⟩
    have b1:bE x q v:=(bE_iff g).2 ⟨yes o2,no1⟩
    have b2:bE x v p:=(bE_iff g).2 ⟨yes o3,no2⟩
    have ip:innerR x p=false:=by
      rw [← Bool.not_eq_true,inner_iff g];exact fun k=>k.2 ⟨_,b2⟩
    have iq:innerR x q=false:=by
      rw [← Bool.not_eq_true,inner_iff g];exact fun k=>k.2 (bE_next g b1)
    have no3: ¬ eE x.1.2 q p:=fun h=>by
      rcases hpq with ⟨e1,e2⟩ | ⟨e1,e2⟩
      · subst e1;subst e2;exact w2 ⟨face_two g (yes o1) h,ip,iq⟩
      · subst e1;subst e2;exact w2 ⟨face_two g h (yes o1),iq,ip⟩
    obtain ⟨i0,hi0,rfl⟩:=mem_tg ht
    have cnt:=shell_cnt g hs (a:=a) (hs.ent _ ht a ta) (S:=[i0]) (List.nodup_cons.2 ⟨by simp,List.nodup_nil⟩) (by simp) ta (fun i hi=>by rw [List.mem_singleton] at hi;subst hi;exact hi0)
      (fun i hi j ha=>by
        rw [List.mem_singleton] at hi;subst hi
        exfalso
        obtain ⟨_,hj,u,w,d1,d2⟩:=(adj_iff g).1 ha
        have hwu:eE x.1.2 w u:=⟨j,hj,d2⟩
        have hu:=dE_hasV d1
        have neuw:=dE_ne hd d1
        have mem: ∀ z,hasV (tg x.1.2 i) z→z=p∨z=q∨z=v:=fun z hz=>by
          obtain ⟨r,r1,r2,r3,r4⟩:=third hd (dE_ne hd o1) (dE_hasV o1).1 (dE_hasV o1).2
          have ev:v=r:=by
            rcases r4 v tv with e | e | e
            · rcases hpq with ⟨e1,e2⟩ | ⟨e1,e2⟩
              · exact absurd (e.trans e1) va
              · exact absurd (e.trans e1) vb
            · rcases hpq with ⟨e1,e2⟩ | ⟨e1,e2⟩
              · exact absurd (e.trans e2) vb
              · exact absurd (e.trans e2) va
            · exact e
          rw [ev];exact r4 z hz
        rcases mem u hu.1 with e | e | e<;>rcases mem w hu.2 with e' | e' | e'<;>subst e<;>subst e'
        · exact neuw rfl
        · exact no3 hwu
        · exact dE_anti hd o3 d1
        · exact dE_anti hd o1 d1
        · exact neuw rfl
        · exact no1 hwu
        · exact no2 hwu
        · exact dE_anti hd o2 d1
        · exact neuw rfl)
      (fun i hi=>by rw [List.mem_singleton] at hi;subst hi;exact .refl _)
    have:smallR x a=true:=by unfold smallR;rw [cnt.1];rfl
    rw [w3] at this;cases this
  rcases tri_or hab va.symm vb.symm ta tb tv with ⟨o1,o2,o3⟩ | ⟨o1,o2,o3⟩
  · exact main a b (.inl ⟨rfl,rfl⟩) o1 o2 o3
  · exact main b a (.inr ⟨rfl,rfl⟩) o1 o2 o3
theorem free_tetra (g:Full x) (hs:SurfM (InN x.1.1) x.1.2) (hw:whyR x a b=0) (hab:a≠b): ∀ p q,p≠q→p≠a→p≠b→q≠a→q≠b→(∃ t∈x.1.2,hasV t a∧hasV t p∧hasV t q)→(∃ t∈x.1.2,hasV t b∧hasV t p∧hasV t q)→(∃ t∈x.1.2,hasV t a∧hasV t b∧hasV t p)→(∃ t∈x.1.2,hasV t a∧hasV t b∧hasV t q)→False:=by
  rintro p q pq pa pb qa qb ⟨t1,h1,a1,a2,a3⟩ ⟨t2,h2,b1,b2,b3⟩ ⟨t3,h3,c1,c2,c3⟩ ⟨t4,h4,d1,d2,d3⟩
  obtain ⟨_,_,w3⟩:=why_0 hw
  have no4: ∀ t∈x.1.2,hasV t a→hasV t b→hasV t p→hasV t q→False:=fun t ht k1 k2 k3 k4=>four (hs.deg t ht) hab pa.symm qa.symm pb.symm qb.symm pq k1 k2 k3 k4
  have n12:t1≠t2:=fun e=>no4 t1 h1 a1 (by rw [e];exact b1) a2 a3
  have n13:t1≠t3:=fun e=>no4 t1 h1 a1 (by rw [e];exact c2) a2 a3
  have n14:t1≠t4:=fun e=>no4 t1 h1 a1 (by rw [e];exact d2) a2 a3
  have n23:t2≠t3:=fun e=>no4 t2 h2 (by rw [e];exact c1) b1 b2 b3
  have n24:t2≠t4:=fun e=>no4 t2 h2 (by rw [e];exact d1) b1 b2 b3
  have n34:t3≠t4:=fun e=>no4 t3 h3 c1 c2 c3 (by rw [e];exact d3)
  have mem3: ∀ {t:P3} {u v w z:Int},t∈x.1.2→u≠v→u≠w→v≠w→hasV t u→hasV t v→hasV t w→hasV t z→z=u∨z=v∨z=w:=fun {t u v w z} ht uv uw vw k1 k2 k3 k4=>by
    obtain ⟨r,r1,r2,r3,r4⟩:=third (hs.deg t ht) uv k1 k2
    have e:w=r:=by
      rcases r4 w k3 with e | e | e
      · exact absurd e.symm uw
      · exact absurd e.symm vw
      · exact e
    rw [e];exact r4 z k4
  let F:P3→Prop:=fun t=>t=t1∨t=t2∨t=t3∨t=t4
  -- the other one with an edge
  have oth: ∀ s,F s→∀ u w,u≠w→hasV s u→hasV s w→∃ r,F r∧r∈x.1.2∧r≠s∧hasV r u∧hasV r w:=fun s hs' u w huw su sw=>by
    rcases hs' with e | e | e | e<;>subst e
    · rcases mem3 h1 pa.symm qa.symm pq a1 a2 a3 su with e | e | e<;>rcases mem3 h1 pa.symm qa.symm pq a1 a2 a3 sw with e' | e' | e'<;>subst e<;>subst e'
      · exact absurd rfl huw
      · exact ⟨t3,.inr (.inr (.inl rfl)),h3,n13.symm,c1,c3⟩
      · exact ⟨t4,.inr (.inr (.inr rfl)),h4,n14.symm,d1,d3⟩
      · exact ⟨t3,.inr (.inr (.inl rfl)),h3,n13.symm,c3,c1⟩
      · exact absurd rfl huw
      · exact ⟨t2,.inr (.inl rfl),h2,n12.symm,b2,b3⟩
      · exact ⟨t4,.inr (.inr (.inr rfl)),h4,n14.symm,d3,d1⟩
      · exact ⟨t2,.inr (.inl rfl),h2,n12.symm,b3,b2⟩
      · exact absurd rfl huw
    · rcases mem3 h2 pb.symm qb.symm pq b1 b2 b3 su with e | e | e<;>rcases mem3 h2 pb.symm qb.symm pq b1 b2 b3 sw with e' | e' | e'<;>subst e<;>subst e'
      · exact absurd rfl huw
      · exact ⟨t3,.inr (.inr (.inl rfl)),h3,n23.symm,c2,c3⟩
      · exact ⟨t4,.inr (.inr (.inr rfl)),h4,n24.symm,d2,d3⟩
      · exact ⟨t3,.inr (.inr (.inl rfl)),h3,n23.symm,c3,c2⟩
      · exact absurd rfl huw
      · exact ⟨t1,.inl rfl,h1,n12,a2,a3⟩
      · exact ⟨t4,.inr (.inr (.inr rfl)),h4,n24.symm,d3,d2⟩
      · exact ⟨t1,.inl rfl,h1,n12,a3,a2⟩
      · exact absurd rfl huw
    · rcases mem3 h3 hab pa.symm pb.symm c1 c2 c3 su with e | e | e<;>rcases mem3 h3 hab pa.symm pb.symm c1 c2 c3 sw with e' | e' | e'<;>subst e<;>subst e'
      · exact absurd rfl huw
      · exact ⟨t4,.inr (.inr (.inr rfl)),h4,n34.symm,d1,d2⟩
      · exact ⟨t1,.inl rfl,h1,n13,a1,a2⟩
      · exact ⟨t4,.inr (.inr (.inr rfl)),h4,n34.symm,d2,d1⟩
      · exact absurd rfl huw
      · exact ⟨t2,.inr (.inl rfl),h2,n23,b1,b2⟩
      · exact ⟨t1,.inl rfl,h1,n13,a2,a1⟩
      · exact ⟨t2,.inr (.inl rfl),h2,n23,b2,b1⟩
      · exact absurd rfl huw
    · rcases mem3 h4 hab qa.symm qb.symm d1 d2 d3 su with e | e | e<;>rcases mem3 h4 hab qa.symm qb.symm d1 d2 d3 sw with e' | e' | e'<;>subst e<;>subst e'
      · exact absurd rfl huw
      · exact ⟨t3,.inr (.inr (.inl rfl)),h3,n34,c1,c2⟩
      · exact ⟨t1,.inl rfl,h1,n14,a1,a3⟩
      · exact ⟨t3,.inr (.inr (.inl rfl)),h3,n34,c2,c1⟩
      · exact absurd rfl huw
      · exact ⟨t2,.inr (.inl rfl),h2,n24,b1,b3⟩
      · exact ⟨t1,.inl rfl,h1,n14,a3,a1⟩
      · exact ⟨t2,.inr (.inl rfl),h2,n24,b3,b1⟩
      · exact absurd rfl huw
  have inl: ∀ s,F s→s∈x.1.2:=fun s k=>by rcases k with e | e | e | e<;>(subst e;assumption)
  -- it has the edge the other way
  have opp: ∀ s,F s→∀ u w,dE s u w→∃ r,F r∧dE r w u:=fun s k u w hd=>by
    have ne:=dE_ne (hs.deg s (inl s k)) hd
    obtain ⟨r,r1,r2,r3,r4,r5⟩:=oth s k u w ne (dE_hasV hd).1 (dE_hasV hd).2
    rcases two_dE ne r4 r5 with e | e
    · exact absurd e (hs.dif s (inl s k) r r2 r3.symm _ _ hd)
    · exact ⟨r,r1,e⟩
  obtain ⟨i1,l1,e1⟩:=mem_tg h1
  obtain ⟨i2,l2,e2⟩:=mem_tg h2
  obtain ⟨i3,l3,e3⟩:=mem_tg h3
  obtain ⟨i4,l4,e4⟩:=mem_tg h4
  have inS: ∀ i,i∈[i1,i2,i3,i4]↔i<x.1.2.length∧F (tg x.1.2 i):=fun i=>by
    constructor
    · intro hi
      simp only [List.mem_cons,List.not_mem_nil,or_false] at hi
      rcases hi with e | e | e | e<;>subst e
      · exact ⟨l1,.inl e1⟩
      · exact ⟨l2,.inr (.inl e2)⟩
      · exact ⟨l3,.inr (.inr (.inl e3))⟩
      · exact ⟨l4,.inr (.inr (.inr e4))⟩
    · rintro ⟨hi,e | e | e | e⟩
      · have:=tg_inj hs.nd hi l1 (e.trans e1.symm);subst this;simp
      · have:=tg_inj hs.nd hi l2 (e.trans e2.symm);subst this;simp
      · have:=tg_inj hs.nd hi l3 (e.trans e3.symm);subst this;simp
      · have:=tg_inj hs.nd hi l4 (e.trans e4.symm);subst this;simp
  have hn:[i1,i2,i3,i4].Nodup:=by
    have d: ∀ {i j:Nat} {t u:P3},tg x.1.2 i=t→tg x.1.2 j=u→t≠u→i≠j:=fun k1 k2 k3 e=>k3 (by rw [← k1,← k2,e])
    simp only [List.nodup_cons,List.mem_cons,List.not_mem_nil,or_false,not_or,List.nodup_nil,and_true,not_false_eq_true]
    exact ⟨⟨d e1 e2 n12,d e1 e3 n13,d e1 e4 n14⟩,⟨d e2 e3 n23,d e2 e4 n24⟩,d e3 e4 n34⟩
  have cnt:=shell_cnt g hs (a:=a) (hs.ent _ h1 a a1) hn (i0:=i1) (by simp) (by rw [e1];exact a1) (fun i hi=>((inS i).1 hi).1)
    (fun i hi j ha=>by
      obtain ⟨k1,k2⟩:=(inS i).1 hi
      obtain ⟨_,hj,u,w,f1,f2⟩:=(adj_iff g).1 ha
      obtain ⟨r,r1,r2⟩:=opp _ k2 u w f1
      refine (inS j).2 ⟨hj,?_⟩
      by_cases e:tg x.1.2 j=r
      · rw [e];exact r1
      · exact absurd r2 (hs.dif _ (tg_mem hj) r (inl r r1) e _ _ f2))
    (fun i hi=>by
      simp only [List.mem_cons,List.not_mem_nil,or_false] at hi
      rcases hi with e | e | e | e<;>subst e
      · exact .refl _
      · exact vert_lab g l1 l2 (v:=p) (by rw [e1];exact a2) (by rw [e2];exact b2) hs
      · exact vert_lab g l1 l3 (v:=a) (by rw [e1];exact a1) (by rw [e3];exact c1) hs
      · exact vert_lab g l1 l4 (v:=a) (by rw [e1];exact a1) (by rw [e4];exact d1) hs)
  have flag:(smS x (smM x a) (ofR x).length).2=false:=by
    rw [← Bool.not_eq_true,smS_flag]
    rintro ⟨i,hi,hl,d,hd,ho⟩
    rw [ofR_len g.toGood] at hi
    have hF:=((inS i).1 ((cnt.2 i hi).1 hl)).2
    have hc:tHas x (3*(i:Int)+d)=true:=tHas_iff.2 ⟨by omega,by omega⟩
    have ke:=cor_dE hc
    rw [show ((3*(i:Int)+d) / 3).toNat=i by omega] at ke
    obtain ⟨r,r1,r2⟩:=opp _ hF _ _ ke.2
    exact ((bE_iff g).1 ⟨_,hc,ho,rfl⟩).2 (eE_mem.2 ⟨r,inl r r1,r2⟩)
  have:smallR x a=true:=by unfold smallR;rw [cnt.1,flag];rfl
  rw [w3] at this;cases this
theorem free_of (g:Full x) (hs:SurfM (InN x.1.1) x.1.2) (hw:whyR x a b=0):Free x.1.2 a b:=by
  obtain ⟨w1,w2,w3⟩:=why_0 hw
  have hab:a≠b:=fun e=>by
    subst e
    rw [near_self g.toGood] at w1;cases w1
  refine ⟨hab,(near_has g hab).1 w1,fun v va vb hva hvb=> ?_,free_lone g hs hw hab,free_tetra g hs hw hab,fun t ht u hu hne ta tb ua ub=> ?_⟩
  · have h1:=(near_has g va.symm).2 hva
    have h2:=(near_has g vb.symm).2 hvb
    exact fac_tri g (why_free hw v ((com_mem g).2 ⟨hab,h1,h2⟩))
  · have key: ∀ {s r:P3},s∈x.1.2→r∈x.1.2→dE s a b→dE r b a→∃ c,(c=a∨c=b)∧∀ Q:P3→Prop,(∀ s∈x.1.2,∀ r∈x.1.2,hasV s c→hasV r c→(∃ w:Int,w≠a∧w≠b∧hasV s w∧hasV r w)→Q s→Q r)→(Q s↔Q r):=fun {s r} h1 h2 d1 d2=>by
      have two:=face_two g (eE_mem.2 ⟨s,h1,d1⟩) (eE_mem.2 ⟨r,h2,d2⟩)
      by_cases ia:innerR x a=true
      · exact ⟨a,.inl rfl,fun Q hQ=>(rot g ia h2 h1 d2 d1 Q fun s hs r hr k1 k2 ⟨w,e1,e2,e3⟩=>hQ s hs r hr k1 k2 ⟨w,e1,e2,e3⟩).symm⟩
      · by_cases ib:innerR x b=true
        · exact ⟨b,.inr rfl,fun Q hQ=>rot g ib h1 h2 d1 d2 Q fun s hs r hr k1 k2 ⟨w,e1,e2,e3⟩=>hQ s hs r hr k1 k2 ⟨w,e2,e1,e3⟩⟩
        · exact absurd ⟨two,by simpa using ia,by simpa using ib⟩ w2
    rcases two_dE hab ta tb with d1 | d1<;>rcases two_dE hab ua ub with d2 | d2
    · exact absurd d2 (hs.dif t ht u hu hne _ _ d1)
    · obtain ⟨c,hc,k⟩:=key ht hu d1 d2
      exact ⟨c,hc,fun Q hQ=>(k Q hQ).1⟩
    · obtain ⟨c,hc,k⟩:=key hu ht d2 d1
      exact ⟨c,hc,fun Q hQ=>(k Q hQ).2⟩
    · exact absurd d2 (hs.dif t ht u hu hne _ _ d1)
end
end S1
open Go Go.Vm Go.Proofs
namespace S1
theorem len_subP (k l:List P3) (hn:k.Nodup) (h: ∀ i∈k,i∈l):k.length≤l.length:=by
  induction k generalizing l with
  | nil=>exact Nat.zero_le _
  | cons a r ih =>
    obtain ⟨h1,h2⟩:=List.nodup_cons.1 hn
    have ha:=h a (List.mem_cons_self ..)
    have:=ih (l.erase a) h2 fun i hi=>(List.mem_erase_of_ne (fun e=>h1 (by rw [← e];exact hi))).2 (h i (List.mem_cons_of_mem _ hi))
    rw [List.length_erase_of_mem ha] at this
    have:=List.length_pos_of_mem ha
    rw [List.length_cons];omega
theorem both_iff {a b:Int} {t:P3} :both a b t=true↔hasV t a∧hasV t b:=by unfold both;exact decide_eq_true_iff
theorem both_len {x:tabE.T} (g:Full x) (hs:SurfM (InN x.1.1) x.1.2) {c:Int} (hc:tHas x c=true):(x.1.2.filter (both (tEdge x c).1 (tEdge x c).2)).length=if 0≤tOpp x c then 2 else 1:=by
  have k:=cor_dE hc
  have hne:=g.ends c hc
  have hm1:=tg_mem k.1
  have hv1:=dE_hasV k.2
  have hnd:(x.1.2.filter (both (tEdge x c).1 (tEdge x c).2)).Nodup:=hs.nd.filter _
  have in1:tg x.1.2 (c / 3).toNat∈x.1.2.filter (both (tEdge x c).1 (tEdge x c).2):=List.mem_filter.2 ⟨hm1,both_iff.2 hv1⟩
  have one: ∀ t∈x.1.2,dE t (tEdge x c).1 (tEdge x c).2→t=tg x.1.2 (c / 3).toNat:=fun t ht hd=>by
    apply Classical.byContradiction
    intro hn
    exact hs.dif t ht _ hm1 hn _ _ hd k.2
  split
  · rename_i ho
    obtain ⟨_,h2,h3⟩:=g.opp ho
    have k2:=cor_dE h2
    rw [h3] at k2
    have hm2:=tg_mem k2.1
    have ne:tg x.1.2 (c / 3).toNat≠tg x.1.2 (tOpp x c / 3).toNat:=fun e=>by
      rw [← e] at k2
      exact dE_anti (hs.deg _ hm1) k.2 k2.2
    have in2:tg x.1.2 (tOpp x c / 3).toNat∈x.1.2.filter (both (tEdge x c).1 (tEdge x c).2):=List.mem_filter.2 ⟨hm2,both_iff.2 (dE_hasV k2.2).symm⟩
    have a1:=len_subP [tg x.1.2 (c / 3).toNat,tg x.1.2 (tOpp x c / 3).toNat] _ (List.nodup_cons.2 ⟨by simpa using ne,List.nodup_cons.2 ⟨by simp,List.nodup_nil⟩⟩) (fun i hi=>by
      rcases List.mem_cons.1 hi with e | hi
      · rw [e];exact in1
      · rw [List.mem_singleton.1 hi];exact in2)
    have a2:=len_subP _ [tg x.1.2 (c / 3).toNat,tg x.1.2 (tOpp x c / 3).toNat] hnd (fun t ht=>by
      obtain ⟨m,hb⟩:=List.mem_filter.1 ht
      obtain ⟨b1,b2⟩:=both_iff.1 hb
      rcases two_dE hne b1 b2 with e | e
      · rw [one t m e];exact List.mem_cons_self ..
      · refine List.mem_cons_of_mem _ (List.mem_singleton.2 ?_)
        apply Classical.byContradiction
        intro hn
        exact hs.dif t m _ hm2 hn _ _ e k2.2)
    have a1:2≤_:=a1
    have a2:_≤2:=a2
    omega
  · rename_i ho
    have a1:=len_subP [tg x.1.2 (c / 3).toNat] _ (List.nodup_cons.2 ⟨by simp,List.nodup_nil⟩) (fun i hi=>by rw [List.mem_singleton.1 hi];exact in1)
    have a2:=len_subP _ [tg x.1.2 (c / 3).toNat] hnd (fun t ht=>by
      obtain ⟨m,hb⟩:=List.mem_filter.1 ht
      obtain ⟨b1,b2⟩:=both_iff.1 hb
      rcases two_dE hne b1 b2 with e | e
      · rw [one t m e];exact List.mem_cons_self ..
      · obtain ⟨d,d1,d2⟩:=eE_iff.1 (eE_mem.2 ⟨t,m,e⟩)
        exact absurd (by rw [g.opp_is d1 d2];exact (tHas_iff.1 d1).1) ho)
    have a1:1≤_:=a1
    have a2:_≤1:=a2
    omega
theorem filter_len (p:P3→Bool): ∀ l:List P3,(l.filter p).length+(l.filter fun t=> !p t).length=l.length
  | []=>rfl
  | t::r=>by
    have:=filter_len p r
    cases h:p t<;>simp only [List.filter_cons,h,if_true,if_false,Bool.not_true,Bool.not_false,List.length_cons,Bool.false_eq_true]<;>omega
theorem col_len (a b:Int) (l:List P3):(colM a b l).length+(l.filter (both a b)).length=l.length:=by
  have:=filter_len (both a b) l
  unfold colM
  rw [List.length_map];omega
theorem draw_surf {x:tabE.T} (g:Full x) (hs:Surf x.1) {a b:Int} (hw:whyR x a b=0):Surf (x.1.1 - 1,(colM a b x.1.2).map (mapT (dn a))):=by
  have hn:=(why_0 hw).1
  have hab:=near_in g.toGood hn
  have hm:=surfM_of hs
  have hc:=col_surf hm (free_of g hm hw)
  have:=dn_map hab.1 (hc hab.1 hab.2)
  have hl:=col_len a b x.1.2
  refine surf_ofM (by omega) (by have:=hs.fit.2.1;omega) ?_ this
  rw [List.length_map]
  have:=hs.fit.2.2.1
  omega
end S1
open Go Go.Vm Go.Proofs
namespace S1
theorem around_iter {x:tabE.T} (g:Good x) {b:Int} : ∀ n k,k+n=30000→FInv (tAfter x) b k→∃ m,FInv (tAfter x) b (k+m)∧aroundF x b n (iter (tAfter x) b k)=(List.range (m+1)).map fun j=>iter (tAfter x) b (k+j)
  | 0,k,e,h=>by have:=fin_after g h;omega
  | n + 1,k,e,h=>by
    unfold aroundF
    by_cases h1:tAfter x (iter (tAfter x) b k)<0
    · rw [if_pos h1];exact ⟨0,h,rfl⟩
    · rw [if_neg h1]
      by_cases h2:tAfter x (iter (tAfter x) b k)=b
      · rw [if_pos h2];exact ⟨0,h,rfl⟩
      · rw [if_neg h2]
        obtain ⟨m,m1,m2⟩:=around_iter g n (k+1) (by omega) (h.succ h1 h2)
        refine ⟨m+1,by rw [show k+(m+1)=k+1+m by omega];exact m1,?_⟩
        have e2:tAfter x (iter (tAfter x) b k)=iter (tAfter x) b (k+1):=rfl
        rw [e2,m2,List.range_succ_eq_map (n:=m+1),List.map_cons,List.map_map]
        refine congrArg (List.cons _) (List.map_congr_left fun j _=> ?_)
        show iter (tAfter x) b (k+1+j)=iter (tAfter x) b (k+(j+1))
        rw [show k+1+j=k+(j+1) by omega]
theorem iter_backA {x:tabE.T} (g:Full x) {b:Int} {m:Nat} (h:FInv (tAfter x) b m): ∀ i j,i≤j→j≤m→iter (tAfter x) b i=iter (tAfter x) b j→iter (tAfter x) b 0=iter (tAfter x) b (j - i)
  | 0,j,_,_,e=>e
  | i+1,j,h1,h2,e=>by
    obtain ⟨k,rfl⟩: ∃ k,j=k+1:=⟨j - 1,by omega⟩
    have p1:=(h (i+1) (by omega) (by omega)).1
    have p2:=(h (k+1) (by omega) h2).1
    have b1:=g.before_after (c:=iter (tAfter x) b i) p1
    have b2:=g.before_after (c:=iter (tAfter x) b k) p2
    have e:tAfter x (iter (tAfter x) b i)=tAfter x (iter (tAfter x) b k):=e
    rw [e,b2] at b1
    rw [show k+1 - (i+1)=k - i by omega]
    exact iter_backA g h i k (by omega) (by omega) b1.symm
theorem around_nd {x:tabE.T} (g:Full x) {v:Int} (h0:0≤v) (h1:v<x.1.1):(aroundL (some x) v).Nodup:=by
  obtain ⟨b,_,e,_⟩:=g.around h0 h1
  rw [e]
  obtain ⟨m,m1,m2⟩:=around_iter g.toGood (b:=b) 30000 0 (by omega) (fun j hj hj2=>by omega)
  rw [Nat.zero_add] at m1
  have e2:aroundF x b 30000 b=aroundF x b 30000 (iter (tAfter x) b 0):=rfl
  rw [e2,m2]
  refine List.Pairwise.map _ (fun i j hh=> ?_) ((List.nodup_range (n:=m+1)).imp_of_mem (S:=fun i j=>i≠j∧i≤m∧j≤m) fun hi hj hn=>⟨hn,by have:=List.mem_range.1 hi;omega,by have:=List.mem_range.1 hj;omega⟩)
  obtain ⟨hn,hi,hj⟩:=hh
  rw [Nat.zero_add,Nat.zero_add]
  intro e
  have key: ∀ i j,i<j→j≤m→iter (tAfter x) b i≠iter (tAfter x) b j:=fun i j hij hj e=>by
    have:=iter_backA g m1 i j (by omega) hj e
    exact (m1 (j - i) (by omega) (by omega)).2 this.symm
  rcases Nat.lt_or_gt_of_ne hn with h | h
  · exact key i j h hj e
  · exact key j i h hi e.symm
theorem cor_one {x:tabE.T} (hd: ∀ i,i<x.1.2.length→¬ dgn (tg x.1.2 i)) {c d:Int} (hc:tHas x c=true) (hd':tHas x d=true) (e:(c / 3).toNat=(d / 3).toNat) (ev:tVert x c=tVert x d):c=d:=by
  have h1:=tHas_iff.1 hc
  have h2:=tHas_iff.1 hd'
  have h1:0≤c∧c<3*(x.1.2.length:Int):=h1
  have h2:0≤d∧d<3*(x.1.2.length:Int):=h2
  have hn:=hd (c / 3).toNat (by omega)
  rw [tVert_t h1.1 h1.2,tVert_t h2.1 h2.2,← e] at ev
  unfold dgn tg at hn
  have k1:c % 3=0∨c % 3=1∨c % 3=2:=by omega
  have k2:d % 3=0∨d % 3=1∨d % 3=2:=by omega
  rcases k1 with a | a | a<;>rcases k2 with b | b | b<;>rw [a,b] at ev<;>simp [p3] at ev<;>first
    | omega
    | (exact absurd ev (fun k=>hn (.inl k)))
    | (exact absurd ev (fun k=>hn (.inl k.symm)))
    | (exact absurd ev (fun k=>hn (.inr (.inl k))))
    | (exact absurd ev (fun k=>hn (.inr (.inl k.symm))))
    | (exact absurd ev (fun k=>hn (.inr (.inr k))))
    | (exact absurd ev (fun k=>hn (.inr (.inr k.symm))))
def atV (v:Int) (t:P3):Bool:=decide (hasV t v)
theorem deg_len {x:tabE.T} (g:Full x) (hs:Surf x.1) {v:Int} (hv:InN x.1.1 v):(aroundL (some x) v).length=(x.1.2.filter (atV v)).length:=by
  obtain ⟨b,_,_,_,_,_,hin,_⟩:=g.around hv.1 hv.2
  have hm:=surfM_of hs
  have nd:((aroundL (some x) v).map fun c=>tg x.1.2 (c / 3).toNat).Nodup:=by
    refine List.Pairwise.map _ (fun c d hh=> ?_) ((around_nd g hv.1 hv.2).imp_of_mem (S:=fun c d=>c≠d∧c∈aroundL (some x) v∧d∈aroundL (some x) v) fun hc hd hn=>⟨hn,hc,hd⟩)
    obtain ⟨hn,hc,hd⟩:=hh
    intro e
    obtain ⟨c1,c2⟩:=hin c hc
    obtain ⟨d1,d2⟩:=hin d hd
    refine hn (cor_one hs.deg c1 d1 ?_ (c2.trans d2.symm))
    exact tg_inj hm.nd (cor_tri c1).1 (cor_tri d1).1 e
  apply Nat.le_antisymm
  · have:=len_subP _ (x.1.2.filter (atV v)) nd fun t ht=>by
      obtain ⟨c,hc,rfl⟩:=List.mem_map.1 ht
      obtain ⟨c1,c2⟩:=hin c hc
      have k:=cor_tri c1
      rw [c2] at k
      exact List.mem_filter.2 ⟨tg_mem k.1,decide_eq_true k.2⟩
    rw [List.length_map] at this;exact this
  · have:=len_subP (x.1.2.filter (atV v)) ((aroundL (some x) v).map fun c=>tg x.1.2 (c / 3).toNat) (hm.nd.filter _) fun t ht=>by
      obtain ⟨h1,h2⟩:=List.mem_filter.1 ht
      obtain ⟨i,hi,ei⟩:=mem_tg h1
      obtain ⟨c,c1,c2,c3⟩:=tri_cor (x:=x) (j:=i) (v:=v) hi (by
        have:hasV (tg x.1.2 i) v:=by rw [ei];exact of_decide_eq_true h2
        exact this)
      refine List.mem_map.2 ⟨c,?_,by rw [c2,ei]⟩
      rw [← c3];exact g.around_all c1
    rw [List.length_map] at this;exact this
end S1
open Go Go.Vm Go.Proofs
namespace S1
def drT (a b:Int) (t:P3):P3:=mapT (dn a) (phT a b t)
def drG (a b:Int) (l:List P3) (i:Nat):Option P3:=if both a b (tg l i)=true then none else some (drT a b (tg l i))
def drL (a b:Int) (l:List P3) (i:Nat):List P3:=(List.range i).filterMap (drG a b l)
theorem drL_succ (a b:Int) (l:List P3) (i:Nat):drL a b l (i+1)=drL a b l i++(drG a b l i).toList:=fm_succ _ _
theorem drL_len (a b:Int) (l:List P3) (i:Nat):(drL a b l i).length≤i:=fm_len _ _
theorem drL_all (a b:Int) (l:List P3):drL a b l l.length=(colM a b l).map (mapT (dn a)):=by
  have e:drL a b l l.length=l.filterMap fun t=>if both a b t=true then none else some (drT a b t):=by
    conv=>rhs;rw [← range_getD (0,0,0) l,List.filterMap_map]
    rfl
  rw [e]
  clear e
  induction l with
  | nil=>rfl
  | cons t r ih =>
    cases h:both a b t
    · rw [List.filterMap_cons,h,if_neg (by decide),ih]
      show _=((List.filter _ (t::r)).map _).map _
      rw [List.filter_cons,h];rfl
    · rw [List.filterMap_cons,h,if_pos rfl,ih]
      show _=((List.filter _ (t::r)).map _).map _
      rw [List.filter_cons,h];rfl
end S1
