/- A part of the proofs of the laws. -/
import Derived.Test.YtahbknnehddjgaaF4toT16
import Derived.Test.YtahbknnehddjgaaT17toW1
set_option linter.unusedSimpArgs false
set_option linter.unusedVariables false
set_option maxHeartbeats 8000000
set_option maxRecDepth 100000
open Go Go.Vm Go.Proofs
namespace S1
inductive Conn (A:Nat→Nat→Prop):Nat→Nat→Prop
  | refl (t:Nat):Conn A t t
  | step {t u w:Nat} :Conn A t u→A u w→Conn A t w
theorem Conn.trans {A:Nat→Nat→Prop} {t u w:Nat} (h:Conn A t u) (k:Conn A u w):Conn A t w:=by
  induction k with
  | refl=>exact h
  | step _ a ih=>exact .step ih a
theorem Conn.symm {A:Nat→Nat→Prop} (hs: ∀ t u,A t u→A u t) {t u:Nat} (h:Conn A t u):Conn A u t:=by
  induction h with
  | refl=>exact .refl _
  | step _ a ih=>exact Conn.trans (.step (.refl _) (hs _ _ a)) ih
theorem Conn.mono {A B:Nat→Nat→Prop} (h: ∀ t u,A t u→B t u) {t u:Nat} (k:Conn A t u):Conn B t u:=by
  induction k with
  | refl=>exact .refl _
  | step _ a ih=>exact .step ih (h _ _ a)
def Adj (x:tabE.T) (i j:Nat):Prop:= ∃ c,tHas x c=true∧(c / 3).toNat=i∧0≤tOpp x c∧(tOpp x c / 3).toNat=j
theorem Full.opp_opp {x:tabE.T} (g:Full x) {c:Int} (h:0≤tOpp x c):tOpp x (tOpp x c)=c:=by
  obtain ⟨h1,h2,h3⟩:=g.opp h
  exact g.opp_is h1 (by rw [h3])
theorem Full.adj_symm {x:tabE.T} (g:Full x) {i j:Nat} (h:Adj x i j):Adj x j i:=by
  obtain ⟨c,h1,h2,h3,h4⟩:=h
  exact ⟨tOpp x c,(g.opp h3).2.1,h4,by rw [g.opp_opp h3];exact (tHas_iff.1 h1).1,by rw [g.opp_opp h3];exact h2⟩
theorem adj_lt {x:tabE.T} (g:Good x) {i j:Nat} (h:Adj x i j):i<x.1.2.length∧j<x.1.2.length:=by
  obtain ⟨c,h1,h2,h3,h4⟩:=h
  exact ⟨by rw [← h2];exact (cor_tri h1).1,by rw [← h4];exact (cor_tri (g.opp h3).2.1).1⟩
abbrev lb (l:List Int) (t:Nat):Int:=l.getD t 0
theorem lb_set {l:List Int} {i t:Nat} {k:Int} (hi:i<l.length):lb (l.set i k) t=if i=t then k else lb l t:=by
  unfold lb
  rw [gdE,List.getElem?_set,gdE]
  split
  · rfl
  · rfl
structure Lab (x:tabE.T) (out:List Int) (n:Int):Prop where
  len:out.length=x.1.2.length
  lt: ∀ t,t<x.1.2.length→lb out t<n
  clo: ∀ t u,Adj x t u→0≤lb out t→lb out u=lb out t
  con: ∀ t u,t<x.1.2.length→u<x.1.2.length→0≤lb out t→lb out t=lb out u→Conn (Adj x) t u
structure Bf (x:tabE.T) (o0:List Int) (n:Int) (f:Nat) (s:OS):Prop where
  len:s.1.length=x.1.2.length
  old: ∀ t,t<x.1.2.length→lb s.1 t=lb o0 t∨(lb s.1 t=n∧lb o0 t<0)
  q: ∀ t,t<x.1.2.length→lb s.1 t=n→(t:Int)∈s.2
  qn: ∀ t∈s.2,0≤t∧t.toNat<x.1.2.length∧lb s.1 t.toNat=n
  con: ∀ t∈s.2,Conn (Adj x) f t.toNat
theorem bf_step {x:tabE.T} (g:Full x) {o0:List Int} {n:Int} {f:Nat} (hn:0≤n) (ho: ∀ t,t<x.1.2.length→lb o0 t<n) {j:Nat} {s:OS} (h:Bf x o0 n f s) (hj:j<s.2.length) (c:Nat) (hc:c<3) :
    Bf x o0 n f (ofC x n j s c)∧(ofC x n j s c).2.getD j 0=s.2.getD j 0∧(∀ t,t<x.1.2.length→0≤lb s.1 t→lb (ofC x n j s c).1 t=lb s.1 t)∧(s.2.length≤(ofC x n j s c).2.length)∧
    (0≤tOpp x (3*s.2.getD j 0+c)→0≤lb (ofC x n j s c).1 (tOpp x (3*s.2.getD j 0+c) / 3).toNat)∧(∀ i,i<s.2.length→(ofC x n j s c).2.getD i 0=s.2.getD i 0):=by
  unfold ofC
  split
  · rename_i hh
    obtain ⟨h1,h2⟩:=hh
    obtain ⟨k1,k2,_⟩:=g.opp h1
    have hm:s.2.getD j 0∈s.2:=getD_mem hj
    obtain ⟨q1,q2,q3⟩:=h.qn _ hm
    have hu:=cor_tri k2
    have ho':=tHas_iff.1 k2
    have hu1:=hu.1
    have happ: ∀ i,i<s.2.length→(s.2++[tOpp x (3*s.2.getD j 0+c) / 3]).getD i 0=s.2.getD i 0:=fun i hi=>by
      rw [gdE,List.getElem?_append_left hi,← gdE]
    have hadj:Adj x (s.2.getD j 0).toNat (tOpp x (3*s.2.getD j 0+c) / 3).toNat:=⟨_,k1,by omega,h1,rfl⟩
    refine ⟨⟨by show (s.1.set _ _).length=_;rw [List.length_set];exact h.len,fun t ht=> ?_,fun t ht e=> ?_,fun t ht=> ?_,fun t ht=> ?_⟩,happ j hj,fun t ht h0=> ?_,by show _≤(s.2++[_]).length;rw [List.length_append];omega,fun _=> ?_,happ⟩
    · show lb (s.1.set _ n) t=_∨(lb (s.1.set _ n) t=_∧_)
      rw [lb_set (by rw [h.len];exact hu1)]
      split
      · rename_i e
        refine .inr ⟨rfl,?_⟩
        rcases h.old t ht with e2 | e2
        · rw [← e2,← e];exact h2
        · exact e2.2
      · exact h.old t ht
    · have e:lb (s.1.set (tOpp x (3*s.2.getD j 0+c) / 3).toNat n) t=n:=e
      show (t:Int)∈s.2++[_]
      rw [lb_set (by rw [h.len];exact hu1)] at e
      split at e
      · rename_i e2
        exact List.mem_append_right _ (List.mem_singleton.2 (by omega))
      · exact List.mem_append_left _ (h.q t ht e)
    · have ht:t∈s.2++[_]:=ht
      show 0≤t∧t.toNat<_∧lb (s.1.set _ n) t.toNat=n
      rw [lb_set (by rw [h.len];exact hu1)]
      rcases List.mem_append.1 ht with ht | ht
      · obtain ⟨a,b,d⟩:=h.qn t ht
        refine ⟨a,b,?_⟩
        split
        · rfl
        · exact d
      · rw [List.mem_singleton] at ht
        refine ⟨by omega,by rw [ht];exact hu1,?_⟩
        rw [if_pos (by rw [ht])]
    · have ht:t∈s.2++[_]:=ht
      rcases List.mem_append.1 ht with ht | ht
      · exact h.con t ht
      · rw [List.mem_singleton.1 ht]
        exact .step (h.con _ hm) hadj
    · show lb (s.1.set _ n) t=_
      rw [lb_set (by rw [h.len];exact hu1),if_neg (fun e=>by rw [← e] at h0;have:lb s.1 (tOpp x (3*s.2.getD j 0+c) / 3).toNat<0:=h2;omega)]
    · show 0≤lb (s.1.set _ n) _
      rw [lb_set (by rw [h.len];exact hu1),if_pos rfl];exact hn
  · rename_i hh
    exact ⟨h,rfl,fun _ _ _=>rfl,Nat.le_refl _,fun h0=>by
      by_cases e:s.1.getD (tOpp x (3*s.2.getD j 0+c) / 3).toNat 0<0
      · exact absurd ⟨h0,e⟩ hh
      · show 0≤s.1.getD _ 0;omega,fun _ _=>rfl⟩
def Seen (x:tabE.T) (s:OS) (j:Nat):Prop:= ∀ i,i<j→∀ u,Adj x (s.2.getD i 0).toNat u→0≤lb s.1 u
theorem bf_J {x:tabE.T} (g:Full x) {o0:List Int} {n:Int} {f:Nat} (hn:0≤n) (ho: ∀ t,t<x.1.2.length→lb o0 t<n) {j:Nat} {s:OS} (h:Bf x o0 n f s) (hj:j<s.2.length) (hs:Seen x s j) :
    Bf x o0 n f (ofJ x n s j)∧Seen x (ofJ x n s j) (j+1)∧s.2.length≤(ofJ x n s j).2.length:=by
  have key: ∀ c,c≤3→Bf x o0 n f (irec (ofC x n j) s c)∧(irec (ofC x n j) s c).2.getD j 0=s.2.getD j 0∧(∀ t,t<x.1.2.length→0≤lb s.1 t→0≤lb (irec (ofC x n j) s c).1 t)∧s.2.length≤(irec (ofC x n j) s c).2.length∧
      (∀ d:Nat,d<c→0≤tOpp x (3*s.2.getD j 0+d)→0≤lb (irec (ofC x n j) s c).1 (tOpp x (3*s.2.getD j 0+d) / 3).toNat)∧(∀ i,i<s.2.length→(irec (ofC x n j) s c).2.getD i 0=s.2.getD i 0):=by
    intro c
    induction c with
    | zero=>exact fun _=>⟨h,rfl,fun _ _ h=>h,Nat.le_refl _,fun d hd=>by omega,fun _ _=>rfl⟩
    | succ c ih =>
      intro hc
      obtain ⟨i1,i2,i3,i4,i5,i6⟩:=ih (by omega)
      obtain ⟨b1,b2,b3,b4,b5,b6⟩:=bf_step g hn ho (j:=j) i1 (Nat.lt_of_lt_of_le hj i4) c (by omega)
      rw [ofC_s]
      rw [i2] at b2 b5
      refine ⟨b1,b2,fun t ht h0=> ?_,by omega,fun d hd h0=> ?_,fun i hi=>by rw [b6 i (by omega),i6 i hi]⟩
      · have:=i3 t ht h0
        rw [b3 t ht this];exact this
      · have hlt:=(cor_tri (g.opp h0).2.1).1
        by_cases e:d=c
        · subst e;exact b5 h0
        · have:=i5 d (by omega) h0
          rw [b3 _ hlt this];exact this
  obtain ⟨i1,i2,i3,i4,i5,i6⟩:=key 3 (Nat.le_refl _)
  unfold ofJ
  refine ⟨i1,fun i hi u hu=> ?_,i4⟩
  rw [i6 i (by omega)] at hu
  by_cases e:i=j
  · subst e
    obtain ⟨c,c1,c2,c3,c4⟩:=hu
    have hq:=h.qn _ (getD_mem hj)
    have hc:=tHas_iff.1 c1
    have e:c=3*s.2.getD i 0+((c % 3).toNat:Nat):=by omega
    rw [← c4,e]
    exact i5 (c % 3).toNat (by omega) (by rw [← e];exact c3)
  · exact i3 u (adj_lt g.toGood hu).2 (hs i (by omega) u hu)
theorem bf_all {x:tabE.T} (g:Full x) {o0:List Int} {n:Int} {f:Nat} (hn:0≤n) (ho: ∀ t,t<x.1.2.length→lb o0 t<n): ∀ (k j:Nat) {s:OS},Bf x o0 n f s→OOk x.1.2.length s→j≤s.2.length→Seen x s j→x.1.2.length<k+j→
    Bf x o0 n f (bfs x n k j s)∧Seen x (bfs x n k j s) (bfs x n k j s).2.length
  | 0,j,s,h,ok,hj,hs,hk=>by
    have:=ok.cnt;omega
  | k +1,j,s,h,ok,hj,hs,hk=>by
    unfold bfs
    split
    · rename_i hlt
      obtain ⟨b1,b2,b3⟩:=bf_J g hn ho h hlt hs
      exact bf_all g hn ho k (j+1) b1 (ofJ_ok g.toGood hn ok) (by omega) b2 (by omega)
    · have e:s.2.length=j:=by omega
      exact ⟨h,by rw [e];exact hs⟩
theorem lab_next {x:tabE.T} (g:Full x) {out:List Int} {n:Int} (hn:0≤n) (h:Lab x out n) {i:Nat} (hi:i<x.1.2.length) (hl: ¬ lb out i≥0) :
    Lab x (bfs x n 10000 0 (out.set i n,[(i:Int)])).1 (n+1)∧lb (bfs x n 10000 0 (out.set i n,[(i:Int)])).1 i=n∧(∀ t,t<x.1.2.length→0≤lb out t→lb (bfs x n 10000 0 (out.set i n,[(i:Int)])).1 t=lb out t)∧
    ∀ t,t<x.1.2.length→lb (bfs x n 10000 0 (out.set i n,[(i:Int)])).1 t=lb out t∨(lb (bfs x n 10000 0 (out.set i n,[(i:Int)])).1 t=n∧lb out t<0):=by
  have hlen:x.1.2.length≤8192:=g.fit.2.2.1
  have h0:Bf x out n i (out.set i n,[(i:Int)]):=by
    refine ⟨by rw [List.length_set];exact h.len,fun t ht=> ?_,fun t ht e=> ?_,fun t ht=> ?_,fun t ht=> ?_⟩
    · show lb (out.set i n) t=_∨(lb (out.set i n) t=n∧_)
      rw [lb_set (by rw [h.len];exact hi)]
      split
      · rename_i e;subst e;exact .inr ⟨rfl,by omega⟩
      · exact .inl rfl
    · have e:lb (out.set i n) t=n:=e
      rw [lb_set (by rw [h.len];exact hi)] at e
      split at e
      · rename_i e2;exact List.mem_singleton.2 (by omega)
      · have:=h.lt t ht;omega
    · rw [List.mem_singleton.1 ht]
      refine ⟨by omega,by omega,?_⟩
      show lb (out.set i n) _=n
      rw [lb_set (by rw [h.len];exact hi),if_pos (by omega)]
    · rw [List.mem_singleton.1 ht];exact .refl _
  obtain ⟨b,hs⟩:=bf_all g hn h.lt 10000 0 h0 (start_ok hn h.len hi hl) (Nat.zero_le _) (fun i hi=>by omega) (by omega)
  have hin : (i:Int)∈(bfs x n 10000 0 (out.set i n,[(i:Int)])).2:=by
    have key: ∀ (k j:Nat) (s:OS),(i:Int)∈s.2→(i:Int)∈(bfs x n k j s).2:=fun k=>by
      induction k with
      | zero=>exact fun j s h=>(by unfold bfs;exact h)
      | succ k ih =>
        intro j s hm
        unfold bfs
        split
        · refine ih _ _ ?_
          have: ∀ c,(i:Int)∈(irec (ofC x n j) s c).2:=fun c=>by
            induction c with
            | zero=>exact hm
            | succ c ih2 =>
              rw [ofC_s]
              generalize irec (ofC x n j) s c=S at ih2
              unfold ofC;split
              · exact List.mem_append_left _ ih2
              · exact ih2
          unfold ofJ
          exact this 3
        · exact hm
    exact key _ _ _ (List.mem_singleton.2 rfl)
  generalize bfs x n 10000 0 (out.set i n,[(i:Int)])=s at *
  have hold: ∀ t,t<x.1.2.length→0≤lb out t→lb s.1 t=lb out t:=fun t ht h0=>by
    rcases b.old t ht with e | e
    · exact e
    · omega
  refine ⟨⟨b.len,fun t ht=> ?_,fun t u ha h0=> ?_,fun t u ht hu h0 e=> ?_⟩,(b.qn _ hin).2.2,hold,b.old⟩
  · rcases b.old t ht with e | e
    · rw [e];have:=h.lt t ht;omega
    · rw [e.1];omega
  · obtain ⟨ht,hu⟩:=adj_lt g.toGood ha
    rcases b.old t ht with e | e
    · rw [e] at h0 ⊢
      have k:=h.clo t u ha h0
      rw [hold u hu (by rw [k];exact h0)];exact k
    · obtain ⟨idx,hidx,e2⟩:=List.mem_iff_getElem.1 (b.q t ht e.1)
      have hsu:0≤lb s.1 u:=hs idx hidx u (by rw [gdE,gE hidx];show Adj x (s.2[idx]).toNat u;rw [e2];exact ha)
      rcases b.old u hu with k | k
      · rw [k] at hsu
        have:=h.clo u t (g.adj_symm ha) hsu
        omega
      · rw [k.1,e.1]
  · rcases b.old t ht with k | k
    · rw [k] at h0 e
      rcases b.old u hu with k2 | k2
      · rw [k2] at e;exact h.con t u ht hu h0 e
      · have:=h.lt t ht;omega
    · rw [k.1] at e
      have c1:=b.con _ (b.q t ht k.1)
      have c2:=b.con _ (b.q u hu e.symm)
      exact Conn.trans (c1.symm fun _ _=>g.adj_symm) c2
theorem lab_all {x:tabE.T} (g:Full x): ∀ i,i≤x.1.2.length→Lab x (ofL x i).1 (ofL x i).2∧0≤(ofL x i).2∧∀ t,t<i→0≤lb (ofL x i).1 t
  | 0,_=>by
    have e: ∀ t,t<x.1.2.length→lb (ofL x 0).1 t= -1:=fun t ht=>by
      show (List.replicate x.1.2.length (-1:Int)).getD t 0= -1
      rw [gdE,List.getElem?_replicate,if_pos ht];rfl
    refine ⟨⟨List.length_replicate,fun t ht=> ?_,fun t u ha h0=> ?_,fun t u ht hu h0=> ?_⟩,Int.le_refl 0,fun t ht=>by omega⟩
    · rw [e t ht];show (-1:Int)<0;decide
    · rw [e t (adj_lt g.toGood ha).1] at h0;omega
    · rw [e t ht] at h0;omega
  | i + 1,hi=>by
    obtain ⟨h1,h2,h3⟩:=lab_all g i (by omega)
    show Lab x (ofI x (ofL x i) i).1 (ofI x (ofL x i) i).2∧0≤(ofI x (ofL x i) i).2∧∀ t,t<i+1→0≤lb (ofI x (ofL x i) i).1 t
    unfold ofI
    split
    · rename_i h
      refine ⟨h1,h2,fun t ht=> ?_⟩
      by_cases e:t=i
      · subst e;exact h
      · exact h3 t (by omega)
    · rename_i h
      obtain ⟨k1,k2,k3,_⟩:=lab_next g h2 h1 (by omega) h
      refine ⟨k1,by show 0≤(ofL x i).2+1;omega,fun t ht=> ?_⟩
      by_cases e:t=i
      · subst e
        show 0≤lb (bfs x _ _ _ _).1 t
        rw [k2];exact h2
      · show 0≤lb (bfs x _ _ _ _).1 t
        rw [k3 t (by omega) (h3 t (by omega))];exact h3 t (by omega)
theorem shell_iff {x:tabE.T} (g:Full x) {t u:Nat} (ht:t<x.1.2.length) (hu:u<x.1.2.length):(ofR x).getD t 0=(ofR x).getD u 0↔Conn (Adj x) t u:=by
  obtain ⟨h1,h2,h3⟩:=lab_all g x.1.2.length (Nat.le_refl _)
  constructor
  · exact fun e=>h1.con t u ht hu (h3 t ht) e
  · intro h
    clear hu
    induction h with
    | refl=>rfl
    | step _ a ih =>
      have hb:=(adj_lt g.toGood a).1
      rw [ih]
      exact (h1.clo _ _ a (h3 _ hb)).symm
end S1
open Go Go.Vm Go.Proofs
namespace S1
theorem tg_inj {l:List P3} (hn:l.Nodup) {i j:Nat} (hi:i<l.length) (hj:j<l.length) (e:tg l i=tg l j):i=j:=by
  unfold tg at e
  rw [gdE,gdE,gE hi,gE hj] at e
  have e:l[i]=l[j]:=e
  have key: ∀ p q (hp:p<l.length) (hq:q<l.length),p<q→l[p]≠l[q]:=fun p q hp hq h=>List.pairwise_iff_getElem.1 hn p q hp hq h
  rcases Nat.lt_trichotomy i j with h | h | h
  · exact absurd e (key i j hi hj h)
  · exact h
  · exact absurd e.symm (key j i hj hi h)
theorem pinM_iff {l:List P3} (hn:l.Nodup) {v:Int} :PinP l v↔PinM l v:=by
  constructor
  · intro h Q hQ t ht tv hq u hu uv
    obtain ⟨i,hi,ei⟩:=mem_tg ht
    obtain ⟨j,hj,ej⟩:=mem_tg hu
    have:=h (fun k=>Q (tg l k)) (fun p q hp hq pv qv hw k=>hQ _ (tg_mem hp) _ (tg_mem hq) pv qv hw k) i hi (by rw [ei];exact tv) (by show Q (tg l i);rw [ei];exact hq) j hj (by rw [ej];exact uv)
    have this:Q (tg l j):=this
    rw [ej] at this;exact this
  · intro h Q hQ i hi iv hq j hj jv
    obtain ⟨k,hk,ek,qk⟩:=h (fun t=> ∃ i,i<l.length∧tg l i=t∧Q i) (fun t ht u hu tv uv hw ⟨p,hp,ep,qp⟩=>by
      obtain ⟨q,hq,eq⟩:=mem_tg hu
      refine ⟨q,hq,eq,hQ p q hp hq (by show hasV (tg l p) v;rw [ep];exact tv) (by show hasV (tg l q) v;rw [eq];exact uv) ?_ qp⟩
      obtain ⟨w,w1,w2,w3⟩:=hw
      exact ⟨w,w1,by show hasV (tg l p) w;rw [ep];exact w2,by show hasV (tg l q) w;rw [eq];exact w3⟩) _ (tg_mem hi) iv ⟨i,hi,rfl,hq⟩ _ (tg_mem hj) jv
    rw [← tg_inj hn hk hj ek];exact qk
abbrev InN (n:Int):Int→Prop:=fun v=>0≤v∧v<n
theorem surfM_of {s:Int×List P3} (h:Surf s):SurfM (InN s.1) s.2:=by
  have hn:s.2.Nodup:=by
    refine List.pairwise_iff_getElem.2 fun i j hi hj hij e=> ?_
    obtain ⟨w,hw⟩:=has_dE (t:=tg s.2 i) (.inl rfl)
    refine h.dif i j hij hj _ _ hw ?_
    have:tg s.2 i=tg s.2 j:=by
      unfold tg
      rw [gdE,gdE,gE hi,gE hj]
      exact e
    rw [← this];exact hw
  have two: ∀ t∈s.2,∀ u∈s.2,t≠u→∃ i j,i<s.2.length∧j<s.2.length∧i≠j∧tg s.2 i=t∧tg s.2 j=u:=fun t ht u hu hne=>by
    obtain ⟨i,hi,ei⟩:=mem_tg ht
    obtain ⟨j,hj,ej⟩:=mem_tg hu
    exact ⟨i,j,hi,hj,fun e=>hne (by rw [← ei,← ej,e]),ei,ej⟩
  refine ⟨hn,fun t ht v hv=> ?_,fun t ht=> ?_,fun t ht u hu hne a b h1 h2=> ?_,fun t ht u hu hne hh=> ?_,fun v hv=> ?_,fun v hv=> ?_⟩
  · obtain ⟨i,hi,ei⟩:=mem_tg ht
    exact fit_hasV h.fit hi (by rw [ei];exact hv)
  · obtain ⟨i,hi,ei⟩:=mem_tg ht
    rw [← ei];exact h.deg i hi
  · obtain ⟨i,j,hi,hj,hij,ei,ej⟩:=two t ht u hu hne
    rw [← ei] at h1;rw [← ej] at h2
    rcases Nat.lt_or_gt_of_ne hij with k | k
    · exact h.dif i j k hj a b h1 h2
    · exact h.dif j i k hi a b h2 h1
  · obtain ⟨i,j,hi,hj,hij,ei,ej⟩:=two t ht u hu hne
    rcases Nat.lt_or_gt_of_ne hij with k | k
    · rw [← ei,← ej] at hh;exact h.mir i j k hj hh
    · -- the other way round: three vertices each
      have hd:=h.deg i hi
      rw [ei] at hd
      have hd2:=h.deg j hj
      rw [ej] at hd2
      have key:hasV t u.1∧hasV t u.2.1∧hasV t u.2.2:=by
        obtain ⟨x,y,z⟩:=t
        obtain ⟨p,q,r⟩:=u
        unfold hasV at *
        unfold dgn at *
        simp only at *
        omega
      rw [← ei,← ej] at key
      exact h.mir j i k hi key
  · obtain ⟨j,hj,hv2⟩:=h.use v.toNat (by rw [Int.toNat_of_nonneg hv.1];exact hv.2)
    rw [Int.toNat_of_nonneg hv.1] at hv2
    exact ⟨_,tg_mem hj,hv2⟩
  · have:=h.pin v.toNat (by rw [Int.toNat_of_nonneg hv.1];exact hv.2)
    rw [Int.toNat_of_nonneg hv.1] at this
    exact (pinM_iff hn).1 this
theorem surf_ofM {n:Int} {l:List P3} (h0:0≤n) (h1:n≤4096) (h2:l.length≤8192) (h:SurfM (InN n) l):Surf (n,l):=by
  refine ⟨⟨h0,h1,h2,fun i hi=> ?_⟩,fun i hi=>h.deg _ (tg_mem hi),fun i j hij hj a b k1 k2=> ?_,fun i j hij hj hh=> ?_,fun v hv=> ?_,fun v hv=> ?_⟩
  · have e1:=h.ent (tg l i) (tg_mem hi) _ (.inl rfl)
    have e2:=h.ent (tg l i) (tg_mem hi) _ (.inr (.inl rfl))
    have e3:=h.ent (tg l i) (tg_mem hi) _ (.inr (.inr rfl))
    show triIn n (tg l i)=true
    refine tri_good ?_
    unfold InN at e1 e2 e3
    omega
  · have hj:j<l.length:=hj
    exact h.dif _ (tg_mem (show i<l.length by omega)) _ (tg_mem hj) (fun e=>by have:=tg_inj h.nd (show i<l.length by omega) hj e;omega) a b k1 k2
  · have hj:j<l.length:=hj
    exact h.mir _ (tg_mem (show i<l.length by omega)) _ (tg_mem hj) (fun e=>by have:=tg_inj h.nd (show i<l.length by omega) hj e;omega) hh
  · have hv:(v:Int)<n:=hv
    obtain ⟨t,ht,tv⟩:=h.use v ⟨by omega,hv⟩
    obtain ⟨j,hj,ej⟩:=mem_tg ht
    exact ⟨j,hj,by show hasV (tg l j) v;rw [ej];exact tv⟩
  · have hv:(v:Int)<n:=hv
    exact (pinM_iff h.nd).2 (h.pin v ⟨by omega,hv⟩)
def mapT (r:Int→Int) (t:P3):P3:=(r t.1,r t.2.1,r t.2.2)
theorem mapT_hasV {r:Int→Int} {t:P3} {u:Int} :hasV (mapT r t) u↔∃ v,hasV t v∧r v=u:=by
  constructor
  · rintro (e | e | e)
    · exact ⟨_,.inl rfl,e⟩
    · exact ⟨_,.inr (.inl rfl),e⟩
    · exact ⟨_,.inr (.inr rfl),e⟩
  · rintro ⟨v,e | e | e,rfl⟩
    · exact .inl (by rw [← e];rfl)
    · exact .inr (.inl (by rw [← e];rfl))
    · exact .inr (.inr (by rw [← e];rfl))
theorem mapT_dE {r:Int→Int} {t:P3} {p q:Int} :dE (mapT r t) p q↔∃ p0 q0,dE t p0 q0∧r p0=p∧r q0=q:=by
  constructor
  · rintro (⟨e1,e2⟩ | ⟨e1,e2⟩ | ⟨e1,e2⟩)
    · exact ⟨_,_,.inl ⟨rfl,rfl⟩,e1,e2⟩
    · exact ⟨_,_,.inr (.inl ⟨rfl,rfl⟩),e1,e2⟩
    · exact ⟨_,_,.inr (.inr ⟨rfl,rfl⟩),e1,e2⟩
  · rintro ⟨p0,q0,⟨e1,e2⟩ | ⟨e1,e2⟩ | ⟨e1,e2⟩,rfl,rfl⟩
    · exact .inl ⟨by rw [← e1];rfl,by rw [← e2];rfl⟩
    · exact .inr (.inl ⟨by rw [← e1];rfl,by rw [← e2];rfl⟩)
    · exact .inr (.inr ⟨by rw [← e1];rfl,by rw [← e2];rfl⟩)
theorem surfM_map {V W:Int→Prop} {l:List P3} (h:SurfM V l) (r:Int→Int) (hr: ∀ v,V v→W (r v)) (hi: ∀ v w,V v→V w→r v=r w→v=w) (ho: ∀ u,W u→∃ v,V v∧r v=u):SurfM W (l.map (mapT r)):=by
  have inj: ∀ t∈l,∀ u∈l,mapT r t=mapT r u→t=u:=fun t ht u hu e=>by
    have e1:=congrArg Prod.fst e
    have e2:=congrArg (fun p=>p.2.1) e
    have e3:=congrArg (fun p=>p.2.2) e
    exact Prod.ext (hi _ _ (h.ent t ht _ (.inl rfl)) (h.ent u hu _ (.inl rfl)) e1) (Prod.ext (hi _ _ (h.ent t ht _ (.inr (.inl rfl))) (h.ent u hu _ (.inr (.inl rfl))) e2) (hi _ _ (h.ent t ht _ (.inr (.inr rfl))) (h.ent u hu _ (.inr (.inr rfl))) e3))
  have back: ∀ {t:P3} {v:Int},t∈l→V v→(hasV (mapT r t) (r v)↔hasV t v):=fun {t v} ht hv=>by
    rw [mapT_hasV]
    exact ⟨fun ⟨w,hw,e⟩=>by rw [← hi w v (h.ent t ht w hw) hv e];exact hw,fun k=>⟨v,k,rfl⟩⟩
  refine ⟨?_,fun t' ht' u hu=> ?_,fun t' ht'=> ?_,fun t' ht' u' hu' hne p q h1 h2=> ?_,fun t' ht' u' hu' hne hh=> ?_,fun u hu=> ?_,fun u hu=> ?_⟩
  · exact List.Pairwise.map _ (fun t u hh e=>hh.1 (inj t hh.2.1 u hh.2.2 e)) (h.nd.imp_of_mem (S:=fun t u=>t≠u∧t∈l∧u∈l) fun ht hu hn=>⟨hn,ht,hu⟩)
  · obtain ⟨t,ht,rfl⟩:=List.mem_map.1 ht'
    obtain ⟨v,hv,rfl⟩:=mapT_hasV.1 hu
    exact hr v (h.ent t ht v hv)
  · obtain ⟨t,ht,rfl⟩:=List.mem_map.1 ht'
    have hd:=h.deg t ht
    rintro (e | e | e)
    · exact hd (.inl (hi _ _ (h.ent t ht _ (.inl rfl)) (h.ent t ht _ (.inr (.inl rfl))) e))
    · exact hd (.inr (.inl (hi _ _ (h.ent t ht _ (.inr (.inl rfl))) (h.ent t ht _ (.inr (.inr rfl))) e)))
    · exact hd (.inr (.inr (hi _ _ (h.ent t ht _ (.inr (.inr rfl))) (h.ent t ht _ (.inl rfl)) e)))
  · obtain ⟨t,ht,rfl⟩:=List.mem_map.1 ht'
    obtain ⟨u,hu,rfl⟩:=List.mem_map.1 hu'
    obtain ⟨p0,q0,d0,e1,e2⟩:=mapT_dE.1 h1
    obtain ⟨p1,q1,d1,e3,e4⟩:=mapT_dE.1 h2
    have k1:=hi _ _ (h.ent t ht _ (dE_hasV d0).1) (h.ent u hu _ (dE_hasV d1).1) (e1.trans e3.symm)
    have k2:=hi _ _ (h.ent t ht _ (dE_hasV d0).2) (h.ent u hu _ (dE_hasV d1).2) (e2.trans e4.symm)
    rw [← k1,← k2] at d1
    exact h.dif t ht u hu (fun e=>hne (by rw [e])) _ _ d0 d1
  · obtain ⟨t,ht,rfl⟩:=List.mem_map.1 ht'
    obtain ⟨u,hu,rfl⟩:=List.mem_map.1 hu'
    exact h.mir t ht u hu (fun e=>hne (by rw [e])) ⟨(back hu (h.ent t ht _ (.inl rfl))).1 hh.1,(back hu (h.ent t ht _ (.inr (.inl rfl)))).1 hh.2.1,(back hu (h.ent t ht _ (.inr (.inr rfl)))).1 hh.2.2⟩
  · obtain ⟨v,hv,rfl⟩:=ho u hu
    obtain ⟨t,ht,tv⟩:=h.use v hv
    exact ⟨_,List.mem_map.2 ⟨t,ht,rfl⟩,(back ht hv).2 tv⟩
  · obtain ⟨v,hv,rfl⟩:=ho u hu
    intro Q hQ t' ht' tv' hq u' hu' uv'
    obtain ⟨t,ht,rfl⟩:=List.mem_map.1 ht'
    obtain ⟨u,hu,rfl⟩:=List.mem_map.1 hu'
    refine h.pin v hv (fun s=>Q (mapT r s)) (fun s hs q hq2 sv qv ⟨w,wv,sw,qw⟩ k=> ?_) t ht ((back ht hv).1 tv') hq u hu ((back hu hv).1 uv')
    exact hQ _ (List.mem_map.2 ⟨s,hs,rfl⟩) _ (List.mem_map.2 ⟨q,hq2,rfl⟩) ((back hs hv).2 sv) ((back hq2 hv).2 qv) ⟨r w,fun e=>wv (hi _ _ (h.ent s hs w sw) hv e),mapT_hasV.2 ⟨w,sw,rfl⟩,mapT_hasV.2 ⟨w,qw,rfl⟩⟩ k
def dn (a v:Int):Int:=if v>a then v - 1 else v
end S1
open Go Go.Vm Go.Proofs
namespace S1
theorem face_iff {x:tabE.T} (g:Full x) {a b:Int} :tFacing x (a,b)≥0↔eE x.1.2 a b:=by
  rw [eE_iff]
  constructor
  · intro h
    unfold tFacing at h
    cases e:mget .arr2 x.2.1 (a,b) with
    | none=>rw [e] at h;exact absurd h (by decide)
    | some c=>exact ⟨c,g.map _ _ e⟩
  · rintro ⟨d,h1,h2⟩
    rw [← h2,g.facing h1];exact (tHas_iff.1 h1).1
theorem face_two {x:tabE.T} (g:Full x) {a b:Int} (h1:eE x.1.2 a b) (h2:eE x.1.2 b a):(facR x a b).length=2:=by
  unfold facR
  rw [if_pos ((face_iff g).2 h1),if_pos ((face_iff g).2 h2)];rfl
theorem two_dE {t:P3} {a b:Int} (hab:a≠b) (h1:hasV t a) (h2:hasV t b):dE t a b∨dE t b a:=by
  obtain ⟨x,y,z⟩:=t
  unfold hasV at h1 h2;unfold dE
  simp only at *
  rcases h1 with e1 | e1 | e1<;>rcases h2 with e2 | e2 | e2<;>first | (exfalso;omega) | (subst e1 e2;simp)
theorem dE_anti {t:P3} (hd: ¬ dgn t) {a b:Int} (h1:dE t a b) (h2:dE t b a):False:=by
  unfold dgn at hd;unfold dE at h1 h2;omega
theorem near_has {x:tabE.T} (g:Full x) {a v:Int} (hav:a≠v):nearR x a v=true↔∃ t∈x.1.2,hasV t a∧hasV t v:=by
  rw [near_iff g]
  constructor
  · rintro ⟨d,d1,d2⟩
    have k:=cor_dE d1
    refine ⟨_,tg_mem k.1,?_⟩
    have:=dE_hasV k.2
    rcases d2 with e | e
    · rw [e] at this;exact this
    · rw [e] at this;exact this.symm
  · rintro ⟨t,ht,h1,h2⟩
    rcases two_dE hav h1 h2 with e | e
    · obtain ⟨d,d1,d2⟩:=eE_iff.1 (eE_mem.2 ⟨t,ht,e⟩)
      exact ⟨d,d1,.inl d2⟩
    · obtain ⟨d,d1,d2⟩:=eE_iff.1 (eE_mem.2 ⟨t,ht,e⟩)
      exact ⟨d,d1,.inr d2⟩
theorem fac_tri {x:tabE.T} (g:Full x) {a b v:Int} (h:v∈facR x a b): ∃ t∈x.1.2,hasV t a∧hasV t b∧hasV t v:=by
  have key: ∀ {p q:Int},tFacing x (p,q)≥0→tVert x (tFacing x (p,q))=v→∃ t∈x.1.2,hasV t p∧hasV t q∧hasV t v:=fun {p q} h1 h2=>by
    unfold tFacing at h1 h2
    cases e:mget .arr2 x.2.1 (p,q) with
    | none=>rw [e] at h1;exact absurd h1 (by decide)
    | some c =>
      rw [e] at h2
      have h2:tVert x c=v:=h2
      obtain ⟨k1,k2⟩:=g.map _ _ e
      have k:=cor_dE k1
      rw [k2] at k
      have kv:=cor_tri k1
      rw [h2] at kv
      exact ⟨_,tg_mem k.1,(dE_hasV k.2).1,(dE_hasV k.2).2,kv.2⟩
  unfold facR at h
  rcases List.mem_append.1 h with h | h
  · split at h
    · exact key (by assumption) (List.mem_singleton.1 h).symm
    · cases h
  · split at h
    · obtain ⟨t,ht,h1,h2,h3⟩:=key (by assumption) (List.mem_singleton.1 h).symm
      exact ⟨t,ht,h2,h1,h3⟩
    · cases h
theorem adj_iff {x:tabE.T} (g:Full x) {i j:Nat} :Adj x i j↔i<x.1.2.length∧j<x.1.2.length∧∃ p q,dE (tg x.1.2 i) p q∧dE (tg x.1.2 j) q p:=by
  constructor
  · rintro ⟨c,c1,c2,c3,c4⟩
    obtain ⟨k1,k2,k3,k4⟩:=g.opp_v (c:=c) c3
    have e1:=cor_dE c1
    have e2:=cor_dE k2
    rw [c2] at e1
    rw [c4] at e2
    refine ⟨e1.1,e2.1,(tEdge x c).1,(tEdge x c).2,e1.2,?_⟩
    have e3:tEdge x (tOpp x c)=((tEdge x c).2,(tEdge x c).1):=Prod.ext k3 k4
    rw [e3] at e2
    exact e2.2
  · rintro ⟨hi,hj,p,q,h1,h2⟩
    obtain ⟨c,c1,c2,c3⟩:=dE_cor hi h1
    obtain ⟨d,d1,d2,d3⟩:=dE_cor hj h2
    have e:tOpp x c=d:=g.opp_is d1 (by rw [c2,d2])
    exact ⟨c,c1,c3,by rw [e];exact (tHas_iff.1 d1).1,by rw [e];exact d3⟩
theorem vert_lab {x:tabE.T} (g:Full x) {i j:Nat} (hi:i<x.1.2.length) (hj:j<x.1.2.length) {v:Int} (h1:hasV (tg x.1.2 i) v) (h2:hasV (tg x.1.2 j) v) (hs:SurfM (InN x.1.1) x.1.2):Conn (Adj x) i j:=by
  have hv:=hs.ent _ (tg_mem hi) v h1
  refine (pinM_iff hs.nd).2 (hs.pin v hv) (fun k=>Conn (Adj x) i k) (fun p q hp hq pv qv ⟨w,wv,pw,qw⟩ k=> ?_) i hi h1 (.refl _) j hj h2
  by_cases e:p=q
  · subst e;exact k
  · refine .step k ((adj_iff g).2 ⟨hp,hq,?_⟩)
    have ne:tg x.1.2 p≠tg x.1.2 q:=fun e'=>e (tg_inj hs.nd hp hq e')
    rcases two_dE wv pw pv with a | a<;>rcases two_dE wv qw qv with b | b
    · exact absurd b (hs.dif _ (tg_mem hp) _ (tg_mem hq) ne _ _ a)
    · exact ⟨_,_,a,b⟩
    · exact ⟨_,_,a,b⟩
    · exact absurd b (hs.dif _ (tg_mem hp) _ (tg_mem hq) ne _ _ a)
theorem smS_cnt (x:tabE.T) (m:Int): ∀ k,(smS x m k).1=(((List.range k).filter fun i=>decide ((ofR x).getD i 0=m)).length:Int)
  | 0=>rfl
  | k +1=>by
    rw [List.range_succ,List.filter_append]
    by_cases h:(ofR x).getD k 0=m
    · rw [smS_yes h]
      show (smS x m k).1+1=_
      rw [smS_cnt x m k,List.filter_cons_of_pos (by simpa using h)]
      simp
    · rw [smS_no h,smS_cnt x m k,List.filter_cons_of_neg (by simpa using h)]
      simp
theorem smC_flag (x:tabE.T) (i:Nat) (b:Bool): ∀ c,irec (smC x i) b c=true↔b=true∨∃ d:Nat,d<c∧tOpp x (3*i+d)<0
  | 0=>⟨.inl,fun h=>by rcases h with h | ⟨d,h,_⟩;exact h;omega⟩
  | c + 1=>by
    rw [smC_s,Bool.or_eq_true,smC_flag x i b c,decide_eq_true_eq]
    constructor
    · rintro ((h | ⟨d,h1,h2⟩) | h)
      · exact .inl h
      · exact .inr ⟨d,by omega,h2⟩
      · exact .inr ⟨c,by omega,h⟩
    · rintro (h | ⟨d,h1,h2⟩)
      · exact .inl (.inl h)
      · by_cases e:d=c
        · subst e;exact .inr h2
        · exact .inl (.inr ⟨d,by omega,h2⟩)
theorem smS_flag (x:tabE.T) (m:Int): ∀ k,(smS x m k).2=true↔∃ i,i<k∧(ofR x).getD i 0=m∧∃ d:Nat,d<3∧tOpp x (3*i+d)<0
  | 0=>⟨fun h=>(by cases h),fun ⟨i,h,_⟩=>by omega⟩
  | k + 1=>by
    by_cases h:(ofR x).getD k 0=m
    · rw [smS_yes h]
      show irec (smC x k) (smS x m k).2 3=true↔_
      rw [smC_flag,smS_flag x m k]
      constructor
      · rintro (⟨i,h1,h2⟩ | h1)
        · exact ⟨i,by omega,h2⟩
        · exact ⟨k,by omega,h,h1⟩
      · rintro ⟨i,h1,h2,h3⟩
        by_cases e:i=k
        · subst e;exact .inr h3
        · exact .inl ⟨i,by omega,h2,h3⟩
    · rw [smS_no h,smS_flag x m k]
      constructor
      · rintro ⟨i,h1,h2⟩;exact ⟨i,by omega,h2⟩
      · rintro ⟨i,h1,h2,h3⟩
        refine ⟨i,?_,h2,h3⟩
        by_cases e:i=k
        · subst e;exact absurd h2 h
        · omega
end S1
open Go Go.Vm Go.Proofs
namespace S1
section
variable {x:tabE.T} {a b:Int}
end
end S1
open Go Go.Vm Go.Proofs
namespace S1
theorem len_subP (k l:List P3) (hn:k.Nodup) (h: ∀ i∈k,i∈l):k.length≤l.length:=by
  induction k generalizing l with
  | nil=>exact Nat.zero_le _
  | cons a r ih =>
    obtain ⟨h1,h2⟩:=List.nodup_cons.1 hn
    have ha:=h a (List.mem_cons_self ..)
    have:=ih (l.erase a) h2 fun i hi=>(List.mem_erase_of_ne (fun e=>h1 (by rw [← e];exact hi))).2 (h i (List.mem_cons_of_mem _ hi))
    rw [List.length_erase_of_mem ha] at this
    have:=List.length_pos_of_mem ha
    rw [List.length_cons];omega
theorem both_iff {a b:Int} {t:P3} :both a b t=true↔hasV t a∧hasV t b:=by unfold both;exact decide_eq_true_iff
theorem both_len {x:tabE.T} (g:Full x) (hs:SurfM (InN x.1.1) x.1.2) {c:Int} (hc:tHas x c=true):(x.1.2.filter (both (tEdge x c).1 (tEdge x c).2)).length=if 0≤tOpp x c then 2 else 1:=by
  have k:=cor_dE hc
  have hne:=g.ends c hc
  have hm1:=tg_mem k.1
  have hv1:=dE_hasV k.2
  have hnd:(x.1.2.filter (both (tEdge x c).1 (tEdge x c).2)).Nodup:=hs.nd.filter _
  have in1:tg x.1.2 (c / 3).toNat∈x.1.2.filter (both (tEdge x c).1 (tEdge x c).2):=List.mem_filter.2 ⟨hm1,both_iff.2 hv1⟩
  have one: ∀ t∈x.1.2,dE t (tEdge x c).1 (tEdge x c).2→t=tg x.1.2 (c / 3).toNat:=fun t ht hd=>by
    apply Classical.byContradiction
    intro hn
    exact hs.dif t ht _ hm1 hn _ _ hd k.2
  split
  · rename_i ho
    obtain ⟨_,h2,h3⟩:=g.opp ho
    have k2:=cor_dE h2
    rw [h3] at k2
    have hm2:=tg_mem k2.1
    have ne:tg x.1.2 (c / 3).toNat≠tg x.1.2 (tOpp x c / 3).toNat:=fun e=>by
      rw [← e] at k2
      exact dE_anti (hs.deg _ hm1) k.2 k2.2
    have in2:tg x.1.2 (tOpp x c / 3).toNat∈x.1.2.filter (both (tEdge x c).1 (tEdge x c).2):=List.mem_filter.2 ⟨hm2,both_iff.2 (dE_hasV k2.2).symm⟩
    have a1:=len_subP [tg x.1.2 (c / 3).toNat,tg x.1.2 (tOpp x c / 3).toNat] _ (List.nodup_cons.2 ⟨by simpa using ne,List.nodup_cons.2 ⟨by simp,List.nodup_nil⟩⟩) (fun i hi=>by
      rcases List.mem_cons.1 hi with e | hi
      · rw [e];exact in1
      · rw [List.mem_singleton.1 hi];exact in2)
    have a2:=len_subP _ [tg x.1.2 (c / 3).toNat,tg x.1.2 (tOpp x c / 3).toNat] hnd (fun t ht=>by
      obtain ⟨m,hb⟩:=List.mem_filter.1 ht
      obtain ⟨b1,b2⟩:=both_iff.1 hb
      rcases two_dE hne b1 b2 with e | e
      · rw [one t m e];exact List.mem_cons_self ..
      · refine List.mem_cons_of_mem _ (List.mem_singleton.2 ?_)
        apply Classical.byContradiction
        intro hn
        exact hs.dif t m _ hm2 hn _ _ e k2.2)
    have a1:2≤_:=a1
    have a2:_≤2:=a2
    omega
  · rename_i ho
    have a1:=len_subP [tg x.1.2 (c / 3).toNat] _ (List.nodup_cons.2 ⟨by simp,List.nodup_nil⟩) (fun i hi=>by rw [List.mem_singleton.1 hi];exact in1)
    have a2:=len_subP _ [tg x.1.2 (c / 3).toNat] hnd (fun t ht=>by
      obtain ⟨m,hb⟩:=List.mem_filter.1 ht
      obtain ⟨b1,b2⟩:=both_iff.1 hb
      rcases two_dE hne b1 b2 with e | e
      · rw [one t m e];exact List.mem_cons_self ..
      · obtain ⟨d,d1,d2⟩:=eE_iff.1 (eE_mem.2 ⟨t,m,e⟩)
        exact absurd (by rw [g.opp_is d1 d2];exact (tHas_iff.1 d1).1) ho)
    have a1:1≤_:=a1
    have a2:_≤1:=a2
    omega
theorem inner_edge {x:tabE.T} (g:Full x) {v w:Int} (hi:innerR x v=true) (hw:nearR x v w=true): ∃ c,tHas x c=true∧tEdge x c=(v,w)∧0≤tOpp x c:=by
  have hb:=((inner_iff g).1 hi).2
  obtain ⟨d,d1,d2⟩:=(near_iff g).1 hw
  rcases d2 with e | e
  · refine ⟨d,d1,e,?_⟩
    apply Classical.byContradiction
    intro hn
    exact hb (bE_next g ⟨d,d1,by omega,e⟩)
  · have ho:0≤tOpp x d:=by
      apply Classical.byContradiction
      intro hn
      exact hb ⟨w,d,d1,by omega,e⟩
    obtain ⟨_,h2,h3⟩:=g.opp ho
    refine ⟨tOpp x d,h2,by rw [h3,e],?_⟩
    rw [g.opp_is d1 (by rw [h3])]
    exact (tHas_iff.1 d1).1
end S1
open Go Go.Vm Go.Proofs
namespace S1
theorem around_iter {x:tabE.T} (g:Good x) {b:Int} : ∀ n k,k+n=30000→FInv (tAfter x) b k→∃ m,FInv (tAfter x) b (k+m)∧aroundF x b n (iter (tAfter x) b k)=(List.range (m+1)).map fun j=>iter (tAfter x) b (k+j)
  | 0,k,e,h=>by have:=fin_after g h;omega
  | n + 1,k,e,h=>by
    unfold aroundF
    by_cases h1:tAfter x (iter (tAfter x) b k)<0
    · rw [if_pos h1];exact ⟨0,h,rfl⟩
    · rw [if_neg h1]
      by_cases h2:tAfter x (iter (tAfter x) b k)=b
      · rw [if_pos h2];exact ⟨0,h,rfl⟩
      · rw [if_neg h2]
        obtain ⟨m,m1,m2⟩:=around_iter g n (k+1) (by omega) (h.succ h1 h2)
        refine ⟨m+1,by rw [show k+(m+1)=k+1+m by omega];exact m1,?_⟩
        have e2:tAfter x (iter (tAfter x) b k)=iter (tAfter x) b (k+1):=rfl
        rw [e2,m2,List.range_succ_eq_map (n:=m+1),List.map_cons,List.map_map]
        refine congrArg (List.cons _) (List.map_congr_left fun j _=> ?_)
        show iter (tAfter x) b (k+1+j)=iter (tAfter x) b (k+(j+1))
        rw [show k+1+j=k+(j+1) by omega]
theorem iter_backA {x:tabE.T} (g:Full x) {b:Int} {m:Nat} (h:FInv (tAfter x) b m): ∀ i j,i≤j→j≤m→iter (tAfter x) b i=iter (tAfter x) b j→iter (tAfter x) b 0=iter (tAfter x) b (j - i)
  | 0,j,_,_,e=>e
  | i+1,j,h1,h2,e=>by
    obtain ⟨k,rfl⟩: ∃ k,j=k+1:=⟨j - 1,by omega⟩
    have p1:=(h (i+1) (by omega) (by omega)).1
    have p2:=(h (k+1) (by omega) h2).1
    have b1:=g.before_after (c:=iter (tAfter x) b i) p1
    have b2:=g.before_after (c:=iter (tAfter x) b k) p2
    have e:tAfter x (iter (tAfter x) b i)=tAfter x (iter (tAfter x) b k):=e
    rw [e,b2] at b1
    rw [show k+1 - (i+1)=k - i by omega]
    exact iter_backA g h i k (by omega) (by omega) b1.symm
theorem around_nd {x:tabE.T} (g:Full x) {v:Int} (h0:0≤v) (h1:v<x.1.1):(aroundL (some x) v).Nodup:=by
  obtain ⟨b,_,e,_⟩:=g.around h0 h1
  rw [e]
  obtain ⟨m,m1,m2⟩:=around_iter g.toGood (b:=b) 30000 0 (by omega) (fun j hj hj2=>by omega)
  rw [Nat.zero_add] at m1
  have e2:aroundF x b 30000 b=aroundF x b 30000 (iter (tAfter x) b 0):=rfl
  rw [e2,m2]
  refine List.Pairwise.map _ (fun i j hh=> ?_) ((List.nodup_range (n:=m+1)).imp_of_mem (S:=fun i j=>i≠j∧i≤m∧j≤m) fun hi hj hn=>⟨hn,by have:=List.mem_range.1 hi;omega,by have:=List.mem_range.1 hj;omega⟩)
  obtain ⟨hn,hi,hj⟩:=hh
  rw [Nat.zero_add,Nat.zero_add]
  intro e
  have key: ∀ i j,i<j→j≤m→iter (tAfter x) b i≠iter (tAfter x) b j:=fun i j hij hj e=>by
    have:=iter_backA g m1 i j (by omega) hj e
    exact (m1 (j - i) (by omega) (by omega)).2 this.symm
  rcases Nat.lt_or_gt_of_ne hn with h | h
  · exact key i j h hj e
  · exact key j i h hi e.symm
def atV (v:Int) (t:P3):Bool:=decide (hasV t v)
end S1
open Go Go.Vm Go.Proofs
namespace S1
theorem both_bool (a b:Int) (t:P3):both a b t=(atV a t&&atV b t):=by unfold both atV;exact Bool.decide_and _ _
theorem filter_congrL {p q:P3→Bool} (h: ∀ t,p t=q t) (l:List P3):(l.filter p).length=(l.filter q).length:=by rw [show p=q from funext h]
theorem gone_len {x:tabE.T} (g:Full x) (hs:SurfM (InN x.1.1) x.1.2) {a b:Int} (hn:nearR x a b=true):(x.1.2.filter (both a b)).length=if tFacing x (a,b)<0∨tOpp x (tFacing x (a,b))<0 then 1 else 2:=by
  by_cases h:tFacing x (a,b)<0
  · rw [if_pos (.inl h)]
    obtain ⟨d,d1,d2⟩:=(near_iff g).1 hn
    rcases d2 with e | e
    · have:=g.facing d1;rw [e] at this;rw [this] at h
      exact absurd (tHas_iff.1 d1).1 (by omega)
    · have k:=both_len g hs d1
      rw [e] at k
      have ho: ¬ 0≤tOpp x d:=fun h0=>by
        obtain ⟨_,h2,h3⟩:=g.opp h0
        have:=g.facing h2;rw [h3,e] at this
        have h2:=(tHas_iff.1 h2).1
        have this:tFacing x (a,b)=tOpp x d:=this
        omega
      rw [if_neg ho] at k
      rw [← k]
      exact filter_congrL (fun t=>by rw [both_bool,both_bool,Bool.and_comm]) _
  · have hf:tFacing x (a,b)≥0:=by omega
    obtain ⟨c,c1,c2⟩:=eE_iff.1 ((face_iff g).1 hf)
    have e:=g.facing c1
    rw [c2] at e
    have k:=both_len g hs c1
    rw [c2] at k
    rw [e] at h ⊢
    have k:(x.1.2.filter (both a b)).length=if 0≤tOpp x c then 2 else 1:=k
    rw [k]
    by_cases ho:0≤tOpp x c
    · rw [if_pos ho,if_neg (by omega)]
    · rw [if_neg ho,if_pos (by omega)]
end S1
open Go Go.Vm Go.Proofs
namespace S1
structure Iso (s s':Int×List P3) (r:Int→Int):Prop where
  len:s'.2.length=s.2.length
  rng: ∀ v,InN s.1 v→InN s'.1 (r v)
  inj: ∀ v w,InN s.1 v→InN s.1 w→r v=r w→v=w
  sur: ∀ u,InN s'.1 u→∃ v,InN s.1 v∧r v=u
  has: ∀ i,i<s.2.length→∀ v,InN s.1 v→(hasV (tg s'.2 i) (r v)↔hasV (tg s.2 i) v)
theorem filter_idx (p:P3→Bool): ∀ l:List P3,(l.filter p).length=((List.range l.length).filter fun i=>p (tg l i)).length
  | []=>rfl
  | t ::l=>by
    rw [List.length_cons,List.range_succ_eq_map,List.filter_cons,List.filter_cons,List.filter_map]
    have ih:=filter_idx p l
    have e:((fun i=>p (tg (t::l) i)) ∘ Nat.succ)=fun i=>p (tg l i):=by
      funext i;show p (tg (t::l) (i+1))=_;unfold tg;rw [List.getD_cons_succ]
    rw [e]
    show _=(if p t=true then _ else _:List Nat).length
    split<;>simp only [List.length_cons,List.length_map,ih]
theorem filter_eqN {p q:Nat→Bool} {n:Nat} (h: ∀ i,i<n→p i=q i):((List.range n).filter p).length=((List.range n).filter q).length:=by
  rw [List.filter_congr fun i hi=>h i (List.mem_range.1 hi)]
theorem fac_cnt {x:tabE.T} (g:Full x) (hs:SurfM (InN x.1.1) x.1.2) {a b:Int} (hn:nearR x a b=true):(facR x a b).length=(x.1.2.filter (both a b)).length:=by
  rw [gone_len g hs hn]
  have hk:tFacing x (a,b)≥0∨tFacing x (b,a)≥0:=by
    unfold nearR at hn
    rw [Bool.or_eq_true,decide_eq_true_eq,decide_eq_true_eq] at hn
    exact hn
  by_cases h1:tFacing x (a,b)≥0
  · obtain ⟨c,c1,c2⟩:=eE_iff.1 ((face_iff g).1 h1)
    have e:=g.facing c1
    rw [c2] at e
    have eo:tOpp x (tFacing x (a,b))=tFacing x (b,a):=by rw [e];unfold tOpp;rw [c2]
    rw [eo]
    unfold facR
    by_cases h2:tFacing x (b,a)≥0
    · rw [if_pos h1,if_pos h2,if_neg (by omega)];rfl
    · rw [if_pos h1,if_neg h2,if_pos (by omega)];rfl
  · unfold facR
    rw [if_neg h1,if_pos (hk.resolve_left h1),if_pos (.inl (by omega))];rfl
theorem fac_has {x:tabE.T} (g:Full x) {a b v:Int} (hab:a≠b):v∈facR x a b↔v≠a∧v≠b∧∃ t∈x.1.2,hasV t a∧hasV t b∧hasV t v:=by
  have one: ∀ {p q:Int},tFacing x (p,q)≥0→tVert x (tFacing x (p,q))≠p∧tVert x (tFacing x (p,q))≠q:=fun {p q} h=>by
    obtain ⟨c,c1,c2⟩:=eE_iff.1 ((face_iff g).1 h)
    have e:=g.facing c1
    rw [c2] at e
    obtain ⟨n1,n2,_⟩:=g.toGood.ne c1
    have e2:(tVert x (tNext x c),tVert x (tPrev x c))=(p,q):=c2
    have f1:tVert x (tNext x c)=p:=congrArg Prod.fst e2
    have f2:tVert x (tPrev x c)=q:=congrArg Prod.snd e2
    rw [f1] at n1
    rw [f2] at n2
    rw [e]
    exact ⟨n1,n2⟩
  constructor
  · intro h
    refine ⟨?_,?_,fac_tri g h⟩
    · unfold facR at h
      rcases List.mem_append.1 h with h | h<;>split at h
      · rw [List.mem_singleton.1 h];exact (one (by assumption)).1
      · cases h
      · rw [List.mem_singleton.1 h];exact (one (by assumption)).2
      · cases h
    · unfold facR at h
      rcases List.mem_append.1 h with h | h<;>split at h
      · rw [List.mem_singleton.1 h];exact (one (by assumption)).2
      · cases h
      · rw [List.mem_singleton.1 h];exact (one (by assumption)).1
      · cases h
  · rintro ⟨va,vb,t,ht,ha,hb,hv⟩
    obtain ⟨j,hj,ej⟩:=mem_tg ht
    have key: ∀ {p q:Int},dE t p q→v≠p→v≠q→tFacing x (p,q)≥0∧tVert x (tFacing x (p,q))=v:=fun {p q} hd vp vq=>by
      rw [← ej] at hd hv
      obtain ⟨c,c1,c2,c3⟩:=dE_cor hj hd
      have e:=g.facing c1
      rw [c2] at e
      have e2:(tVert x (tNext x c),tVert x (tPrev x c))=(p,q):=c2
      refine ⟨by rw [e];exact (tHas_iff.1 c1).1,?_⟩
      rw [e]
      rcases tri_vs c1 (by rw [c3];exact hv) with k | k | k
      · exact k.symm
      · exact absurd (k.trans (congrArg Prod.fst e2)) vp
      · exact absurd (k.trans (congrArg Prod.snd e2)) vq
    unfold facR
    rcases two_dE hab ha hb with hd | hd
    · obtain ⟨k1,k2⟩:=key hd va vb
      exact List.mem_append_left _ (by rw [if_pos k1,k2];exact List.mem_singleton.2 rfl)
    · obtain ⟨k1,k2⟩:=key hd vb va
      exact List.mem_append_right _ (by rw [if_pos k1,k2];exact List.mem_singleton.2 rfl)
theorem inner_near {x:tabE.T} (g:Full x) {v:Int} (hv:InN x.1.1 v):innerR x v=true↔∀ w,nearR x v w=true→(facR x v w).length=2:=by
  constructor
  · intro hi w hw
    obtain ⟨c,c1,c2,c3⟩:=inner_edge g hi hw
    obtain ⟨_,h2,h3⟩:=g.opp c3
    rw [c2] at h3
    exact face_two g (eE_iff.2 ⟨c,c1,c2⟩) (eE_iff.2 ⟨_,h2,h3⟩)
  · intro h
    refine (inner_iff g).2 ⟨hv,fun ⟨w,hw⟩=> ?_⟩
    obtain ⟨e1,e2⟩:=(bE_iff g).1 hw
    have hn:nearR x v w=true:=by
      unfold nearR
      rw [Bool.or_eq_true,decide_eq_true_eq,decide_eq_true_eq]
      exact .inr ((face_iff g).2 e1)
    have:=h w hn
    unfold facR at this
    rw [if_neg (fun k=>e2 ((face_iff g).1 k)),if_pos ((face_iff g).2 e1)] at this
    cases this
theorem adj_has {x:tabE.T} (g:Full x) (hs:SurfM (InN x.1.1) x.1.2) {i j:Nat} :Adj x i j↔i<x.1.2.length∧j<x.1.2.length∧i≠j∧∃ p q,p≠q∧(hasV (tg x.1.2 i) p∧hasV (tg x.1.2 i) q)∧hasV (tg x.1.2 j) p∧hasV (tg x.1.2 j) q:=by
  rw [adj_iff g]
  constructor
  · rintro ⟨hi,hj,p,q,h1,h2⟩
    refine ⟨hi,hj,fun e=> ?_,p,q,dE_ne (hs.deg _ (tg_mem hi)) h1,dE_hasV h1,(dE_hasV h2).symm⟩
    subst e
    exact dE_anti (hs.deg _ (tg_mem hi)) h1 h2
  · rintro ⟨hi,hj,hij,p,q,hpq,⟨a1,a2⟩,b1,b2⟩
    have ne:tg x.1.2 i≠tg x.1.2 j:=fun e'=>hij (tg_inj hs.nd hi hj e')
    refine ⟨hi,hj,?_⟩
    rcases two_dE hpq a1 a2 with a | a<;>rcases two_dE hpq b1 b2 with b | b
    · exact absurd b (hs.dif _ (tg_mem hi) _ (tg_mem hj) ne _ _ a)
    · exact ⟨_,_,a,b⟩
    · exact ⟨_,_,a,b⟩
    · exact absurd b (hs.dif _ (tg_mem hi) _ (tg_mem hj) ne _ _ a)
def shutT (l:List P3) (i:Nat):Prop:= ∀ p q,p≠q→hasV (tg l i) p→hasV (tg l i) q→∃ j,j<l.length∧j≠i∧hasV (tg l j) p∧hasV (tg l j) q
theorem shut_iff {x:tabE.T} (g:Full x) (hs:SurfM (InN x.1.1) x.1.2) {i:Nat} (hi:i<x.1.2.length):(∃ d:Nat,d<3∧tOpp x (3*i+d)<0)↔¬ shutT x.1.2 i:=by
  have hH: ∀ d:Nat,d<3→tHas x (3*(i:Int)+d)=true:=fun d hd=>tHas_iff.2 ⟨by omega,by omega⟩
  constructor
  · rintro ⟨d,hd,ho⟩ hc
    have h1:=hH d hd
    have k:=cor_dE h1
    rw [show ((3*(i:Int)+d) / 3).toNat=i by omega] at k
    have hv:=dE_hasV k.2
    have hne:=g.ends _ h1
    obtain ⟨j,hj,hji,b1,b2⟩:=hc _ _ hne hv.1 hv.2
    have ne:tg x.1.2 i≠tg x.1.2 j:=fun e'=>hji (tg_inj hs.nd hi hj e').symm
    rcases two_dE hne b1 b2 with b | b
    · exact hs.dif _ (tg_mem hi) _ (tg_mem hj) ne _ _ k.2 b
    · obtain ⟨c,c1,c2,_⟩:=dE_cor hj b
      have:=g.opp_is c1 (c:=3*(i:Int)+d) c2
      have:=(tHas_iff.1 c1).1
      omega
  · intro hc
    apply Classical.byContradiction
    intro hn
    refine hc fun p q hpq hp hq=> ?_
    have one: ∀ {p q:Int},dE (tg x.1.2 i) p q→∃ j,j<x.1.2.length∧j≠i∧hasV (tg x.1.2 j) p∧hasV (tg x.1.2 j) q:=fun {p q} hd=>by
      obtain ⟨c,c1,c2,c3⟩:=dE_cor hi hd
      have hc3: ∃ d:Nat,d<3∧c=3*(i:Int)+d:=⟨(c - 3*i).toNat,by have:=tHas_iff.1 c1;omega,by have:=tHas_iff.1 c1;omega⟩
      obtain ⟨d,hd3,ed⟩:=hc3
      have ho:0≤tOpp x c:=by
        apply Classical.byContradiction
        intro k;exact hn ⟨d,hd3,by rw [← ed];omega⟩
      obtain ⟨_,h2,h3⟩:=g.opp ho
      have k2:=cor_dE h2
      rw [h3,c2] at k2
      refine ⟨_,k2.1,fun e=> ?_,(dE_hasV k2.2).2,(dE_hasV k2.2).1⟩
      rw [e] at k2
      exact dE_anti (hs.deg _ (tg_mem hi)) hd k2.2
    rcases two_dE hpq hp hq with hd | hd
    · exact one hd
    · obtain ⟨j,j1,j2,j3,j4⟩:=one hd
      exact ⟨j,j1,j2,j4,j3⟩
theorem small_has {x:tabE.T} (g:Full x) (hs:SurfM (InN x.1.1) x.1.2) {a:Int} (ha:InN x.1.1 a) {i0:Nat} (h0:i0<x.1.2.length) (hv:hasV (tg x.1.2 i0) a) :
    (∀ i,i<x.1.2.length→((ofR x).getD i 0=smM x a↔Conn (Adj x) i0 i)):=fun i hi=>by
  obtain ⟨c1,c2⟩:=g.vtx a ha.1 ha.2
  have kt:=cor_tri c1
  rw [c2] at kt
  have hlab:(ofR x).getD i0 0=smM x a:=by
    unfold smM
    exact (shell_iff g h0 kt.1).2 (vert_lab g h0 kt.1 hv kt.2 hs)
  rw [← hlab,eq_comm]
  exact shell_iff g h0 hi
section
variable {s s':Int×List P3} {r:Int→Int}
theorem Iso.rev (f:Iso s s' r) (hs:Surf s) (hs':Surf s') {i:Nat} (hi:i<s.2.length) {u:Int} (h:hasV (tg s'.2 i) u): ∃ v,InN s.1 v∧r v=u∧hasV (tg s.2 i) v:=by
  have hm:=surfM_of hs'
  have hu:=hm.ent _ (tg_mem (l:=s'.2) (by rw [f.len];exact hi)) u h
  obtain ⟨v,hv,e⟩:=f.sur u hu
  exact ⟨v,hv,e,(f.has i hi v hv).1 (by rw [e];exact h)⟩
theorem Iso.inn (f:Iso s s' r) (hs:Surf s) (hs':Surf s') {i:Nat} (hi:i<s.2.length) {v:Int} (h:hasV (tg s.2 i) v):InN s.1 v:=(surfM_of hs).ent _ (tg_mem hi) v h
theorem Iso.bothN (f:Iso s s' r) (hs:Surf s) (hs':Surf s') {a b:Int} (ha:InN s.1 a) (hb:InN s.1 b):(s'.2.filter (both (r a) (r b))).length=(s.2.filter (both a b)).length:=by
  rw [filter_idx,filter_idx,f.len]
  refine filter_eqN fun i hi=> ?_
  rw [Bool.eq_iff_iff,both_iff,both_iff,f.has i hi a ha,f.has i hi b hb]
theorem Iso.near (f:Iso s s' r) (hs:Surf s) (hs':Surf s') {a b:Int} (ha:InN s.1 a) (hb:InN s.1 b):nearR (newT s') (r a) (r b)=nearR (newT s) a b:=by
  obtain ⟨_,g,e⟩:=new_of hs
  obtain ⟨_,g',e'⟩:=new_of hs'
  by_cases hab:a=b
  · subst hab;rw [near_self g.toGood,near_self g'.toGood]
  · rw [Bool.eq_iff_iff,near_has g hab,near_has g' (fun k=>hab (f.inj _ _ ha hb k)),e,e']
    constructor
    · rintro ⟨t,ht,h1,h2⟩
      obtain ⟨i,hi,ei⟩:=mem_tg ht
      rw [f.len] at hi
      rw [← ei] at h1 h2
      exact ⟨_,tg_mem hi,(f.has i hi a ha).1 h1,(f.has i hi b hb).1 h2⟩
    · rintro ⟨t,ht,h1,h2⟩
      obtain ⟨i,hi,ei⟩:=mem_tg ht
      rw [← ei] at h1 h2
      exact ⟨_,tg_mem (l:=s'.2) (by rw [f.len];exact hi),(f.has i hi a ha).2 h1,(f.has i hi b hb).2 h2⟩
theorem Iso.facN (f:Iso s s' r) (hs:Surf s) (hs':Surf s') {a b:Int} (ha:InN s.1 a) (hb:InN s.1 b) (hn:nearR (newT s) a b=true):(facR (newT s') (r a) (r b)).length=(facR (newT s) a b).length:=by
  obtain ⟨_,g,e⟩:=new_of hs
  obtain ⟨_,g',e'⟩:=new_of hs'
  have hm:=surfM_of (s:=(newT s).1) (by rw [e];exact hs)
  have hm':=surfM_of (s:=(newT s').1) (by rw [e'];exact hs')
  rw [fac_cnt g hm hn,fac_cnt g' hm' ((f.near hs hs' ha hb).trans hn),e,e']
  exact f.bothN hs hs' ha hb
theorem Iso.inner (f:Iso s s' r) (hs:Surf s) (hs':Surf s') {v:Int} (hv:InN s.1 v):innerR (newT s') (r v)=innerR (newT s) v:=by
  obtain ⟨_,g,e⟩:=new_of hs
  obtain ⟨_,g',e'⟩:=new_of hs'
  rw [Bool.eq_iff_iff,inner_near g (by rw [e];exact hv),inner_near g' (by rw [e'];exact f.rng v hv)]
  constructor
  · intro h w hw
    have hw2:=(near_in g.toGood hw).2
    rw [e] at hw2
    rw [← f.facN hs hs' hv hw2 hw]
    exact h _ ((f.near hs hs' hv hw2).trans hw)
  · intro h w' hw
    have hw2:=(near_in g'.toGood hw).2
    rw [e'] at hw2
    obtain ⟨w,hwn,rfl⟩:=f.sur w' hw2
    have hw:=(f.near hs hs' hv hwn).symm.trans hw
    rw [f.facN hs hs' hv hwn hw]
    exact h w hw
theorem Iso.com (f:Iso s s' r) (hs:Surf s) (hs':Surf s') {a b v:Int} (ha:InN s.1 a) (hb:InN s.1 b) (hv:InN s.1 v):r v∈comR (newT s') (r a) (r b)↔v∈comR (newT s) a b:=by
  obtain ⟨_,g,e⟩:=new_of hs
  obtain ⟨_,g',e'⟩:=new_of hs'
  rw [com_mem g,com_mem g',f.near hs hs' ha hv,f.near hs hs' hb hv]
  exact and_congr_left fun _=>⟨fun k e=>k (congrArg r e),fun k e=>k (f.inj _ _ ha hb e)⟩
theorem Iso.fac (f:Iso s s' r) (hs:Surf s) (hs':Surf s') {a b v:Int} (ha:InN s.1 a) (hb:InN s.1 b) (hv:InN s.1 v) (hab:a≠b):r v∈facR (newT s') (r a) (r b)↔v∈facR (newT s) a b:=by
  obtain ⟨_,g,e⟩:=new_of hs
  obtain ⟨_,g',e'⟩:=new_of hs'
  rw [fac_has g hab,fac_has g' (fun k=>hab (f.inj _ _ ha hb k)),e,e']
  have h1: ∀ {c},InN s.1 c→(r v≠r c↔v≠c):=fun {c} hc=>⟨fun k e=>k (congrArg r e),fun k e=>k (f.inj _ _ hv hc e)⟩
  rw [h1 ha,h1 hb]
  refine and_congr_right fun _=>and_congr_right fun _=> ?_
  constructor
  · rintro ⟨t,ht,k1,k2,k3⟩
    obtain ⟨i,hi,ei⟩:=mem_tg ht
    rw [f.len] at hi
    rw [← ei] at k1 k2 k3
    exact ⟨_,tg_mem hi,(f.has i hi a ha).1 k1,(f.has i hi b hb).1 k2,(f.has i hi v hv).1 k3⟩
  · rintro ⟨t,ht,k1,k2,k3⟩
    obtain ⟨i,hi,ei⟩:=mem_tg ht
    rw [← ei] at k1 k2 k3
    exact ⟨_,tg_mem (l:=s'.2) (by rw [f.len];exact hi),(f.has i hi a ha).2 k1,(f.has i hi b hb).2 k2,(f.has i hi v hv).2 k3⟩
theorem Iso.adj (f:Iso s s' r) (hs:Surf s) (hs':Surf s') {i j:Nat} :Adj (newT s') i j↔Adj (newT s) i j:=by
  obtain ⟨_,g,e⟩:=new_of hs
  obtain ⟨_,g',e'⟩:=new_of hs'
  have hm:=surfM_of (s:=(newT s).1) (by rw [e];exact hs)
  have hm':=surfM_of (s:=(newT s').1) (by rw [e'];exact hs')
  rw [adj_has g hm,adj_has g' hm',e,e',f.len]
  refine and_congr_right fun hi=>and_congr_right fun hj=>and_congr_right fun _=> ?_
  constructor
  · rintro ⟨p,q,hpq,⟨a1,a2⟩,b1,b2⟩
    obtain ⟨p0,hp,rfl,p1⟩:=f.rev hs hs' hi a1
    obtain ⟨q0,hq,rfl,q1⟩:=f.rev hs hs' hi a2
    exact ⟨p0,q0,fun k=>hpq (congrArg r k),⟨p1,q1⟩,(f.has j hj p0 hp).1 b1,(f.has j hj q0 hq).1 b2⟩
  · rintro ⟨p,q,hpq,⟨a1,a2⟩,b1,b2⟩
    have hp:=f.inn hs hs' hi a1
    have hq:=f.inn hs hs' hi a2
    exact ⟨r p,r q,fun k=>hpq (f.inj _ _ hp hq k),⟨(f.has i hi p hp).2 a1,(f.has i hi q hq).2 a2⟩,(f.has j hj p hp).2 b1,(f.has j hj q hq).2 b2⟩
theorem Iso.shut (f:Iso s s' r) (hs:Surf s) (hs':Surf s') {i:Nat} (hi:i<s.2.length):shutT s'.2 i↔shutT s.2 i:=by
  constructor
  · intro h p q hpq a1 a2
    have hp:=f.inn hs hs' hi a1
    have hq:=f.inn hs hs' hi a2
    obtain ⟨j,j1,j2,j3,j4⟩:=h (r p) (r q) (fun k=>hpq (f.inj _ _ hp hq k)) ((f.has i hi p hp).2 a1) ((f.has i hi q hq).2 a2)
    rw [f.len] at j1
    exact ⟨j,j1,j2,(f.has j j1 p hp).1 j3,(f.has j j1 q hq).1 j4⟩
  · intro h p q hpq a1 a2
    obtain ⟨p0,hp,rfl,p1⟩:=f.rev hs hs' hi a1
    obtain ⟨q0,hq,rfl,q1⟩:=f.rev hs hs' hi a2
    obtain ⟨j,j1,j2,j3,j4⟩:=h p0 q0 (fun k=>hpq (congrArg r k)) p1 q1
    exact ⟨j,by rw [f.len];exact j1,j2,(f.has j j1 p0 hp).2 j3,(f.has j j1 q0 hq).2 j4⟩
theorem Iso.small (f:Iso s s' r) (hs:Surf s) (hs':Surf s') {a:Int} (ha:InN s.1 a) {i0:Nat} (h0:i0<s.2.length) (hv:hasV (tg s.2 i0) a):smallR (newT s') (r a)=smallR (newT s) a:=by
  obtain ⟨_,g,e⟩:=new_of hs
  obtain ⟨_,g',e'⟩:=new_of hs'
  have hm:=surfM_of (s:=(newT s).1) (by rw [e];exact hs)
  have hm':=surfM_of (s:=(newT s').1) (by rw [e'];exact hs')
  have hl:=ofR_len g.toGood
  have hl':=ofR_len g'.toGood
  rw [e] at hl
  rw [e',f.len] at hl'
  have k:=small_has g hm (a:=a) (by rw [e];exact ha) (i0:=i0) (by rw [e];exact h0) (by rw [e];exact hv)
  have k':=small_has g' hm' (a:=r a) (by rw [e'];exact f.rng a ha) (i0:=i0) (by rw [e',f.len];exact h0) (by rw [e'];exact (f.has i0 h0 a ha).2 hv)
  rw [e] at k
  rw [e',f.len] at k'
  have hc: ∀ i,Conn (Adj (newT s')) i0 i↔Conn (Adj (newT s)) i0 i:=fun i=>⟨fun c=>c.mono fun _ _=>(f.adj hs hs').1,fun c=>c.mono fun _ _=>(f.adj hs hs').2⟩
  have hlab: ∀ i,i<s.2.length→((ofR (newT s')).getD i 0=smM (newT s') (r a)↔(ofR (newT s)).getD i 0=smM (newT s) a):=fun i hi=>by rw [k i hi,k' i hi,hc]
  have e1:(smS (newT s') (smM (newT s') (r a)) (ofR (newT s')).length).1=(smS (newT s) (smM (newT s) a) (ofR (newT s)).length).1:=by
    rw [smS_cnt,smS_cnt,hl,hl']
    exact congrArg (fun n:Nat=>(n:Int)) (filter_eqN fun i hi=>by rw [decide_eq_decide];exact hlab i hi)
  have e2:(smS (newT s') (smM (newT s') (r a)) (ofR (newT s')).length).2=(smS (newT s) (smM (newT s) a) (ofR (newT s)).length).2:=by
    rw [Bool.eq_iff_iff,smS_flag,smS_flag,hl,hl']
    refine exists_congr fun i=>and_congr_right fun hi=> ?_
    rw [hlab i hi,shut_iff g hm (by rw [e];exact hi),shut_iff g' hm' (by rw [e',f.len];exact hi),e,e',f.shut hs hs' hi]
  unfold smallR
  rw [e1,e2]
theorem Iso.why (f:Iso s s' r) (hs:Surf s) (hs':Surf s') {a b:Int} (ha:InN s.1 a) (hb:InN s.1 b):whyR (newT s') (r a) (r b)=whyR (newT s) a b:=by
  obtain ⟨_,g,e⟩:=new_of hs
  obtain ⟨_,g',e'⟩:=new_of hs'
  have hN:=f.near hs hs' ha hb
  cases hn:nearR (newT s) a b with
  | false =>
    rw [why_far (hN.trans hn),why_far hn]
  | true =>
    have hab:a≠b:=fun k=>by subst k;rw [near_self g.toGood] at hn;cases hn
    have hF:=f.facN hs hs' ha hb hn
    have hI:=f.inner hs hs' ha
    have hJ:=f.inner hs hs' hb
    obtain ⟨t,ht,h1,_⟩:=(near_has g hab).1 hn
    rw [e] at ht
    obtain ⟨i0,h0,ei⟩:=mem_tg ht
    have hS:=f.small hs hs' ha h0 (by rw [ei];exact h1)
    have hC:whyL (facR (newT s') (r a) (r b)) (comR (newT s') (r a) (r b))=whyL (facR (newT s) a b) (comR (newT s) a b):=by
      rw [Bool.eq_iff_iff,whyL_iff,whyL_iff]
      constructor
      · intro h v hv
        have hvn:InN s.1 v:=by have:=(near_in g.toGood ((com_mem g).1 hv).2.1).2;rw [e] at this;exact this
        exact (f.fac hs hs' ha hb hvn hab).1 (h _ ((f.com hs hs' ha hb hvn).2 hv))
      · intro h u hu
        have hun:InN s'.1 u:=by have:=(near_in g'.toGood ((com_mem g').1 hu).2.1).2;rw [e'] at this;exact this
        obtain ⟨v,hv,rfl⟩:=f.sur u hun
        exact (f.fac hs hs' ha hb hv hab).2 (h v ((f.com hs hs' ha hb hv).1 hu))
    unfold whyR
    rw [hN,hF,hI,hJ,hC,hS]
end
end S1
