/- A part of the proofs of the laws. -/
import Derived.Test.YtahbknnehddjgaaGreatY6toY15a
import Derived.Test.YtahbknnehddjgaaGreatR1toF6
set_option linter.unusedSimpArgs false
set_option linter.unusedVariables false
set_option maxHeartbeats 8000000
set_option maxRecDepth 100000
open Go Go.Vm Go.Proofs
open S9 (surf9C surf9Row surfR surf9_iff)
namespace S1
theorem surfR_new (s:SoT):surfR s=true↔∃ x,newO s=some x:=by
  rw [surf9_iff]
  exact ⟨fun h=>⟨_,(new_of h).1⟩,fun ⟨_,h⟩=>(new_full h).2.2⟩
def sfXC (x:tabE.T):List AV→Option Res:=con1 soupE (fun s=>some (none,some (dgreatR s=false∧newO s=some x),.tup [(ETy.pt tabE).av (some x),.s (.bool true)]))
def sfNC:List AV→Option Res:=con1 soupE (fun s=>some (none,some (dgreatR s=true∨newO s=none),.tup [.s (.val (.pointer none)),.s (.bool false)]))
attribute [local irreducible] surfR dgreatR
theorem sfX_vc (n:Int) (l:List P3) (x:tabE.T) (h:dgreatR (n,l)=false∧newO (n,l)=some x):afun ⟨tyL,[(74,dgreatC),(75,surf9C),(28,newXC x)],[]⟩ Tryz.f43 [soupE.av (n,l)] (fun r=>r= .tup [(ETy.pt tabE).av (some x),.s (.bool true)]):=by
  have h1:surfR (n,l)=true:=(surfR_new _).2 ⟨_,h.2⟩
  repeat' (conv=>whnf
           first | done | refine qN (by first | rfl | omega | (simp only [i64ok] at *;omega)) ?_ | apply qH | refine qG fun _=> ?_ | apply qB | apply qa | apply qo | refine qe (fun _=> ?_) (fun _=> ?_) | refine qn (fun _=> ?_) (fun _=> ?_) | refine qd (fun _=> ?_) (fun _=> ?_) | apply qt | refine qi (fun _=> ?_) (fun _=> ?_) | refine And.intro rfl ?_ | apply qE | apply qO | exact True.intro | apply qq | apply qs | refine qK (by kernel_rfl) ?_ | apply qr)
  all_goals try first | apply qz1 | apply qz2 | apply qz3 | apply qz4 | apply qz5 | apply qz6 | apply qz7 | apply qz8 | apply qz9 | apply qz0
  all_goals try simp only [take_one,take_one',set_one,take_all,qn1,rec_self,qn2,pair_eta,ETy.dflt,qn3,qn4,Int.reduceToNat,Int.reduceAdd,Int.reduceSub,Int.reduceNeg,Nat.reduceAdd,Nat.zero_add] at *
  all_goals first
    | exact Hold.intro h.2
    | (rw [h.1] at *;contradiction)
    | (rw [h1] at *;contradiction)
    | exact HoldEq.intro rfl
theorem sfN_vc (n:Int) (l:List P3) (x:tabE.T) (h:dgreatR (n,l)=true∨newO (n,l)=none):afun ⟨tyL,[(74,dgreatC),(75,surf9C),(28,newXC x)],[]⟩ Tryz.f43 [soupE.av (n,l)] (fun r=>r= .tup [.s (.val (.pointer none)),.s (.bool false)]):=by
  have h1:dgreatR (n,l)=false→surfR (n,l)=false:=fun e=>by
    cases hs:surfR (n,l) with
    | false=>rfl
    | true =>
      obtain ⟨x,hx⟩:=(surfR_new _).1 hs
      rcases h with h | h
      · rw [h] at e;cases e
      · rw [hx] at h;cases h
  repeat' (conv=>whnf
           first | done | refine qN (by first | rfl | omega | (simp only [i64ok] at *;omega)) ?_ | apply qH | refine qG fun _=> ?_ | apply qB | apply qa | apply qo | refine qe (fun _=> ?_) (fun _=> ?_) | refine qn (fun _=> ?_) (fun _=> ?_) | refine qd (fun _=> ?_) (fun _=> ?_) | apply qt | refine qi (fun _=> ?_) (fun _=> ?_) | refine And.intro rfl ?_ | apply qE | apply qO | exact True.intro | apply qq | apply qs | refine qK (by kernel_rfl) ?_ | apply qr)
  all_goals try first | apply qz1 | apply qz2 | apply qz3 | apply qz4 | apply qz5 | apply qz6 | apply qz7 | apply qz8 | apply qz9 | apply qz0
  all_goals try simp only [take_one,take_one',set_one,take_all,qn1,rec_self,qn2,pair_eta,ETy.dflt,qn3,qn4,Int.reduceToNat,Int.reduceAdd,Int.reduceSub,Int.reduceNeg,Nat.reduceAdd,Nat.zero_add] at *
  all_goals first
    | exact HoldEq.intro rfl
    | exact absurd ((h1 (by assumption)).symm.trans (by assumption:surfR (n,l)=true)) (by decide)
theorem sfXRow (x:tabE.T):FnRow Tryz.prog 43 (sfXC x):=⟨con1_ok fun s r h=>by
  cases h;exact fn_by (rulesF (fn:=[(74,dgreatC),(75,surf9C),(28,newXC x)]) (fr:=[]) ⟨dgreatRow,surf9Row,(newXRow x),trivial⟩ trivial) Tryz.func43 (by kernel_rfl) fun _ h=>sfX_vc s.1 s.2 x h,_,Tryz.func43,by kernel_rfl,by kernel_rfl⟩
theorem sfNRow:FnRow Tryz.prog 43 sfNC:=⟨con1_ok fun s r h=>by
  cases h;exact fn_by (rulesF (fn:=[(74,dgreatC),(75,surf9C),(28,newXC _)]) (fr:=[]) ⟨dgreatRow,surf9Row,(newXRow _),trivial⟩ trivial) Tryz.func43 (by kernel_rfl) fun _ h=>sfN_vc s.1 s.2 (newT (0,[])) h,_,Tryz.func43,by kernel_rfl,by kernel_rfl⟩
abbrev ColT:=SoT×List Int×RecT×Bool
def colE (s:SoT) (c:Int):Int×Int:=tEdge (newT s) (c.tmod (3*(s.2.length:Int)))
def colOk (s:SoT) (c:Int):Prop:=(dgreatR s=false∧isR s=true)∧(s.2.length:Int)≠0∧whyR (newT s) (colE s c).1 (colE s c).2=0
instance (s:SoT) (c:Int):Decidable (colOk s c):=inferInstanceAs (Decidable (_∧_))
def colR (s:SoT) (c:Int):ColT:=if colOk s c then ((s.1 - 1,drL (colE s c).1 (colE s c).2 s.2 s.2.length),imgL s.1 (colE s c).1 (colE s c).2,recR s (colE s c).1 (colE s c).2,true) else (s,[],(0,0,[],[],[]),false)
def colV (d:ColT):AV:= .tup [soupE.av d.1,.s (.sl i64E d.2.1),recE.av d.2.2.1,.s (.bool d.2.2.2)]
def colW (d:ColT):AV:=if d.2.2.2=true then colV d else .tup [soupE.av d.1,.s (.sl i64E d.2.1),.agg [.int .i64 0,.int .i64 0,.val (.slice none 0 0),.val (.slice none 0 0),.val (.slice none 0 0)],.s (.bool false)]
theorem colW_rep {σ:Sig} {s:SoT} {c:Int} {v:Value} (h:VRep σ [] (colW (colR s c)) v):VRep σ [] (colV (colR s c)) v:=by
  by_cases he:colOk s c
  · unfold colW colR at h;rw [if_pos he,if_pos rfl] at h
    unfold colR;rw [if_pos he];exact h
  · unfold colW colR at h;rw [if_neg he,if_neg (show ¬ false=true by decide)] at h
    unfold colR;rw [if_neg he]
    obtain ⟨vs,e1,h⟩:=h
    match vs,h with
    | [x,y,z,w],⟨h1,h2,⟨dt,eb,h3⟩,h4⟩ =>
      refine ⟨_,e1,h1,h2,⟨dt,eb,?_⟩,h4⟩
      match dt,h3 with
      | [d1,d2,d3,d4,d5],⟨k1,k2,k3,k4,k5,k6⟩=>exact ⟨k1,k2,nil_sl k3,nil_sl k4,nil_sl k5,k6⟩
def imP (m:Int→Int) (i:Nat):List Int:=(List.range i).map fun v:Nat=>m (v:Int)
theorem imgL_imP (n a b:Int):imgL n a b=imP (fun v=>mapV v a b) n.toNat:=rfl
theorem imP_0 (m:Int→Int):imP m 0=[]:=rfl
theorem imP_s (m:Int→Int) (i:Nat):imP m (i+1)=imP m i++[m (i:Int)]:=by unfold imP;rw [List.range_succ,List.map_append];rfl
theorem imP_len (m:Int→Int) (i:Nat):(imP m i).length=i:=by unfold imP;rw [List.length_map,List.length_range]
def loopCo (n:Int) (m:Int→Int):Spec Nat where
  inv i:=i≤n.toNat
  live i:=[(65,.s (.int .i64 i)),(14,.s (.own 7 0 (imP m i).length))]
  keep:=[2,4,6,11,12,64]
  heap i:=[(7,.row i64E 3 (imP m i))]
  keepH:=[0,1,2,3,4,5,6]
  mu i:=n.toNat - i
attribute [local irreducible] colW doR whyR mapV newT tEdge imP
theorem col_vc (n:Int) (l L:List P3) (A Fn:List Int) (R:List P3) (c:Int) (m:Int→Int) (x:tabE.T) (E:Int×Int) (hc:0≤c∧c≤255) (hg:dgreatR (n,l)=false) (hx:newO (n,l)=some x) (hE:tEdge x (c.tmod (3*(l.length:Int)))=E) (hm: ∀ v,m v=mapV v E.1 E.2)
    (hY:(l.length:Int)≠0→whyO (some x) E.1 E.2=0→doR (n,l) E.1 E.2=((n - 1,L),(E.1,E.2,A,R,Fn),0)∧colW (colR (n,l) c)=colV ((n - 1,L),imP m n.toNat,(E.1,E.2,A,R,Fn),true)∧((0≤E.2∧E.2<n)∧n≤4096))
    (hN:(l.length:Int)=0∨whyO (some x) E.1 E.2≠0→colW (colR (n,l) c)= .tup [soupE.av (n,l),.s (.sl i64E []),.agg [.int .i64 0,.int .i64 0,.val (.slice none 0 0),.val (.slice none 0 0),.val (.slice none 0 0)],.s (.bool false)]):afun ⟨tyL,[(43,sfXC x),(44,edgeC),(45,mayC),(11,cdoXC ((n-1,L),(E.1,E.2,A,R,Fn),0)),(34,cmapXC (E.1,E.2,m))],[]⟩ Tryz.f20 [soupE.av (n,l),(ETy.int .u8).av c] (fun r=>r=colW (colR (n,l) c)):=by
  obtain ⟨_,g,hs⟩:=new_full hx
  have hf:=hs.fit
  have hl:l.length≤8192:=hf.2.2.1
  have hn:0≤n∧n≤4096:=⟨hf.1,hf.2.1⟩
  repeat' (conv=>whnf
           first | done | refine qN (by first | rfl | omega | (simp only [i64ok] at *;omega)) ?_ | apply qH | refine qG fun _=> ?_ | apply qB | apply qa | apply qo | refine qe (fun _=> ?_) (fun _=> ?_) | refine qn (fun _=> ?_) (fun _=> ?_) | refine qd (fun _=> ?_) (fun _=> ?_) | apply qt | refine qi (fun _=> ?_) (fun _=> ?_) | (refine atReg 12 rfl ?_;refine Or.inr (Exists.intro (Nat) (Exists.intro (loopCo n m) (And.intro (Exists.intro (0) (And.intro (Hold.out ?_) (And.intro ?_ (And.intro ?_ rfl)))) (fun i hi=> ?_))))) | ((with_reducible show (∃ y,And (Spec.inv (loopCo _ _) y) _));refine Exists.intro (i+1) (And.intro (Hold.out ?_) (And.intro (And.intro ?_ (And.intro ?_ rfl)) (Hold.out ?_)))) | refine And.intro rfl ?_ | apply qE | apply qO | exact True.intro | apply qq | apply qs | refine qK (by kernel_rfl) ?_ | apply qr)
  all_goals try first | apply qz1 | apply qz2 | apply qz3 | apply qz4 | apply qz5 | apply qz6 | apply qz7 | apply qz8 | apply qz9 | apply qz0
  all_goals try simp only [take_one,take_one',set_one,take_all,qn1,rec_self,qn2,pair_eta,ETy.dflt,qn3,qn4,Int.reduceToNat,Int.reduceAdd,Int.reduceSub,Int.reduceNeg,Nat.reduceAdd,Nat.zero_add,loopCo] at *
  all_goals try rw [hE] at *
  all_goals try first
    | exact Hold.intro ⟨hg,hx⟩
    | (rw [hN (.inl (by omega))];exact HoldEq.intro rfl)
    | (rw [hN (.inr (by assumption))];exact HoldEq.intro rfl)
    | exact Hold.intro (fun y e=>by cases e;exact g.toGood)
    | (rw [imP_0];done)
    | (rw [imP_0];rfl)
    | (rw [imP_s];done)
    | (rw [imP_len,imP_len];done)
    | exact Hold.intro (Int.le_trans (Int.le_of_lt (Int.tmod_lt_of_pos c (show 0<3*(l.length:Int) by omega))) (by omega))
    | (refine Hold.intro ?_;omega)
    | (refine Hold.intro ?_;unfold i64ok;omega)
    | (refine Hold.intro ?_;rw [imP_len];omega)
  all_goals have hy:=hY (by assumption) (by assumption)
  all_goals first
    | exact Hold.intro hy.1
    | exact Hold.intro ⟨by omega,by omega,trivial,trivial,hm _⟩
    | (rw [hy.2.1,show i=n.toNat by omega];exact HoldEq.intro rfl)
theorem col0_vc (n:Int) (l L:List P3) (A Fn:List Int) (R:List P3) (c:Int) (m:Int→Int) (E:Int×Int) (x:tabE.T) (h:dgreatR (n,l)=true∨newO (n,l)=none) (hN:colW (colR (n,l) c)= .tup [soupE.av (n,l),.s (.sl i64E []),.agg [.int .i64 0,.int .i64 0,.val (.slice none 0 0),.val (.slice none 0 0),.val (.slice none 0 0)],.s (.bool false)]):afun ⟨tyL,[(43,sfNC),(44,edgeC),(45,mayC),(11,cdoXC ((n-1,L),(E.1,E.2,A,R,Fn),0)),(34,cmapXC (E.1,E.2,m))],[]⟩ Tryz.f20 [soupE.av (n,l),(ETy.int .u8).av c] (fun r=>r=colW (colR (n,l) c)):=by
  repeat' (conv=>whnf
           first | done | refine qN (by first | rfl | omega | (simp only [i64ok] at *;omega)) ?_ | apply qH | refine qG fun _=> ?_ | apply qB | apply qa | apply qo | refine qe (fun _=> ?_) (fun _=> ?_) | refine qn (fun _=> ?_) (fun _=> ?_) | refine qd (fun _=> ?_) (fun _=> ?_) | apply qt | refine qi (fun _=> ?_) (fun _=> ?_) | refine And.intro rfl ?_ | apply qE | apply qO | exact True.intro | apply qq | apply qs | refine qK (by kernel_rfl) ?_ | apply qr)
  all_goals try first | apply qz1 | apply qz2 | apply qz3 | apply qz4 | apply qz5 | apply qz6 | apply qz7 | apply qz8 | apply qz9 | apply qz0
  all_goals try simp only [take_one,take_one',set_one,take_all,qn1,rec_self,qn2,pair_eta,ETy.dflt,qn3,qn4,Int.reduceToNat,Int.reduceAdd,Int.reduceSub,Int.reduceNeg,Nat.reduceAdd,Nat.zero_add] at *
  all_goals first
    | exact Hold.intro h
    | (rw [hN];exact HoldEq.intro rfl)
theorem colR_no {s:SoT} {c:Int} (h: ¬ colOk s c):colW (colR s c)= .tup [soupE.av s,.s (.sl i64E []),.agg [.int .i64 0,.int .i64 0,.val (.slice none 0 0),.val (.slice none 0 0),.val (.slice none 0 0)],.s (.bool false)]:=by
  unfold colR;rw [if_neg h];unfold colW;rw [if_neg (show ¬ false=true by decide)]
theorem colR_nope {s:SoT} {c:Int} (h: ¬ colOk s c):colR s c=(s,[],(0,0,[],[],[]),false):=if_neg h
theorem colR_ok {s:SoT} {c:Int} (h:colOk s c):colR s c=((s.1 - 1,drL (colE s c).1 (colE s c).2 s.2 s.2.length),imgL s.1 (colE s c).1 (colE s c).2,recR s (colE s c).1 (colE s c).2,true):=if_pos h
theorem colOk_do {s:SoT} {c:Int} (hc:0≤c) (h:colOk s c):doE s (colE s c).1 (colE s c).2=0:=by
  obtain ⟨⟨_,h1⟩,h2,h3⟩:=h
  have hs:=(is_surf s).1 h1
  obtain ⟨_,g,e⟩:=new_of hs
  have hab:=near_in g.toGood (why_0 h3).1
  rw [e] at hab
  rw [doE_surf hs,if_pos hab,h3];rfl
def collC:List AV→Option Res:=con2 soupE (.int .u8) (fun s c=>some (none,none,colV (colR s c)))
theorem collRow:FnRow Tryz.prog 20 collC:=⟨con2_ok fun s c r h=>by
  cases h
  by_cases hg:dgreatR s=true
  · exact FnOk.res (fn_by (rulesF (fn:=[(43,sfNC),(44,edgeC),(45,mayC),(11,cdoXC _),(34,cmapXC _)]) (fr:=[]) ⟨sfNRow,edgeRow,mayRow,(cdoXRow _),(cmapXRow _),trivial⟩ trivial) Tryz.func20 (by kernel_rfl) fun _ _=>col0_vc s.1 s.2 [] [] [] [] c (fun _=>0) (0,0) (newT (0,[])) (.inl hg) (colR_no fun k=>by rw [k.1.1] at hg;cases hg)) fun σ v h=>colW_rep h
  · have hg:dgreatR s=false:=by simpa using hg
    cases hx:newO s with
    | none=>exact FnOk.res (fn_by (rulesF (fn:=[(43,sfNC),(44,edgeC),(45,mayC),(11,cdoXC _),(34,cmapXC _)]) (fr:=[]) ⟨sfNRow,edgeRow,mayRow,(cdoXRow _),(cmapXRow _),trivial⟩ trivial) Tryz.func20 (by kernel_rfl) fun _ _=>col0_vc s.1 s.2 [] [] [] [] c (fun _=>0) (0,0) (newT (0,[])) (.inr hx) (colR_no fun k=>by have:=(new_of ((is_surf s).1 k.1.2)).1;rw [hx] at this;cases this)) fun σ v h=>colW_rep h
    | some x =>
      obtain ⟨ex,g,hs⟩:=new_full hx
      exact FnOk.res (fn_by (rulesF (fn:=[(43,sfXC _),(44,edgeC),(45,mayC),(11,cdoXC _),(34,cmapXC _)]) (fr:=[]) ⟨(sfXRow _),edgeRow,mayRow,(cdoXRow _),(cmapXRow _),trivial⟩ trivial) Tryz.func20 (by kernel_rfl) fun hgd _=>col_vc s.1 s.2 (drL (colE s c).1 (colE s c).2 s.2 s.2.length) (atL (colE s c).1 (colE s c).2 s.2 s.2.length) (fanL (colE s c).1 (colE s c).2 s.2 s.2.length) (rtL (colE s c).1 (colE s c).2 s.2 s.2.length) c (fun v=>mapV v (colE s c).1 (colE s c).2) x (colE s c) (InK.u8 hgd.2.1) hg hx (by unfold colE;rw [ex]) (fun _=>rfl)
        (fun h1 h2=>by
          have k:colOk s c:=⟨⟨hg,(is_surf s).2 hs⟩,h1,by rw [← ex];exact h2⟩
          have hd:=colOk_do (InK.u8 hgd.2.1).1 k
          have hw:=doE_why hd
          refine ⟨doR_0 hd,?_,hw.2.2.1,hs.fit.2.1⟩
          rw [colR_ok k];unfold colW;rw [if_pos rfl,← imgL_imP];rfl)
        (fun h1=>colR_no fun k=>by
          rcases h1 with h1 | h1
          · exact k.2.1 h1
          · exact h1 (by rw [ex];exact k.2.2))) fun σ v h=>colW_rep h,_,Tryz.func20,by kernel_rfl,by kernel_rfl⟩
def plF (p:List P3) (im:List Int) (N gone:Int) (q:List P3) (v:Nat):List P3:=if (v:Int)≠gone∧v<im.length∧im.getD v 0≥0∧im.getD v 0<N then q.set (im.getD v 0).toNat (p.getD v (0,0,0)) else q
def plL (p:List P3) (im:List Int) (N gone:Int) (i:Nat):List P3:=irec (plF p im N gone) (List.replicate N.toNat (0,0,0)) i
theorem plL_len (p:List P3) (im:List Int) (N gone:Int): ∀ i,(plL p im N gone i).length=N.toNat
  | 0=>by show (List.replicate N.toNat ((0:Int),(0:Int),(0:Int))).length=_;rw [List.length_replicate]
  | i+1=>by
    show (plF p im N gone (plL p im N gone i) i).length=_
    unfold plF
    split
    · rw [List.length_set];exact plL_len p im N gone i
    · exact plL_len p im N gone i
def loopPl (p:List P3) (im:List Int) (N gone:Int):Spec Nat where
  inv i:=i≤p.length
  live i:=[(15,.s (.int .i64 i))]
  keep:=[0,1,2,3,9,14]
  heap i:=[(1,.row .arr3 57 (plL p im N gone i))]
  keepH:=[0]
  mu i:=p.length - i
theorem plL_0 (p:List P3) (im:List Int) (N gone:Int):plL p im N gone 0=List.replicate N.toNat (0,0,0):=rfl
theorem plL_y {p:List P3} {im:List Int} {N gone:Int} {i:Nat} (h:(i:Int)≠gone∧i<im.length∧im.getD i 0≥0∧im.getD i 0<N):plL p im N gone (i+1)=(plL p im N gone i).set (im.getD i 0).toNat (p.getD i (0,0,0)):=if_pos h
theorem plL_n {p:List P3} {im:List Int} {N gone:Int} {i:Nat} (h: ¬ ((i:Int)≠gone∧i<im.length∧im.getD i 0≥0∧im.getD i 0<N)):plL p im N gone (i+1)=plL p im N gone i:=if_neg h
attribute [local irreducible] plL
theorem pl_vc {fn} (p:List P3) (im:List Int) (N gone:Int) (hN:0≤N∧N≤100000):afun ⟨tyL,fn,[]⟩ Tryz.f21 [(ETy.sl .arr3).av p,(ETy.sl i64E).av im,i64E.av N,i64E.av gone] (fun r=>r= .s (.sl .arr3 (plL p im N gone p.length))):=by
  repeat' (conv=>whnf
           first | done | refine qN (by first | rfl | omega | (simp only [i64ok] at *;omega)) ?_ | apply qH | refine qG fun _=> ?_ | apply qB | apply qa | apply qo | refine qe (fun _=> ?_) (fun _=> ?_) | refine qn (fun _=> ?_) (fun _=> ?_) | refine qd (fun _=> ?_) (fun _=> ?_) | apply qt | refine qi (fun _=> ?_) (fun _=> ?_) | (refine atReg 3 rfl ?_;refine Or.inr (Exists.intro (Nat) (Exists.intro (loopPl p im N gone) (And.intro (Exists.intro (0) (And.intro (Hold.out ?_) (And.intro ?_ (And.intro ?_ rfl)))) (fun i hi=> ?_))))) | ((with_reducible show (∃ y,And (Spec.inv (loopPl _ _ _ _) y) _));refine Exists.intro (i+1) (And.intro (Hold.out ?_) (And.intro (And.intro ?_ (And.intro ?_ rfl)) (Hold.out ?_)))) | refine And.intro rfl ?_ | apply qE | apply qO | exact True.intro | apply qq | apply qs | refine qK (by kernel_rfl) ?_ | apply qr)
  all_goals try first | apply qz1 | apply qz2 | apply qz3 | apply qz4 | apply qz5 | apply qz6 | apply qz7 | apply qz8 | apply qz9 | apply qz0
  all_goals try simp only [take_one,take_one',set_one,take_all,qn1,rec_self,qn2,pair_eta,ETy.dflt,qn3,qn4,Int.reduceToNat,Int.reduceAdd,Int.reduceSub,Int.reduceNeg,Nat.reduceAdd,Nat.zero_add,loopPl] at *
  all_goals try first
    | (rw [plL_0];done)
    | (rw [plL_0];exact HoldOb.intro rfl)
    | (refine Hold.intro ?_;omega)
  all_goals have hq:=plL_len p im N gone i
  all_goals try first
    | (rw [plL_0];done)
    | (rw [plL_0];exact HoldOb.intro rfl)
    | (refine Hold.intro ?_;omega)
    | (refine Hold.intro ?_;unfold i64ok;omega)
    | (rw [plL_y (by omega)];done)
    | (rw [plL_n (by omega)];done)
    | (rw [show i=p.length by omega];done)
    | (rw [show i=p.length by omega];exact HoldEq.intro rfl)
    | (have e:i=p.length:=by omega
       subst e;exact HoldEq.intro rfl)
  have hi9:i=p.length:=by omega
  subst hi9
  rw [List.drop_zero,← hq,List.take_length]
def plC:List AV→Option Res:=con4 (.sl .arr3) (.sl i64E) i64E i64E (fun p im (N gone:Int)=>some (none,some (0≤N∧N≤100000),.s (.sl .arr3 (plL p im N gone p.length))))
theorem plRow:FnRow Tryz.prog 21 plC:=⟨con4_ok fun p im N gone r h=>by cases h;exact fn_by (rulesF (fn:=[]) (fr:=[]) trivial trivial) Tryz.func21 (by kernel_rfl) fun _ h=>pl_vc p im N gone h,_,Tryz.func21,by kernel_rfl,by kernel_rfl⟩
end S1
open Go Go.Vm Go.Proofs
namespace S1
theorem mapV_inj {a b v w:Int} (hv:0≤v) (hw:0≤w) (h1:v≠a) (h2:w≠a) (h:mapV v a b=mapV w a b):v=w:=by
  unfold mapV at h
  (repeat' split at h)<;>omega
theorem getD_setP (l:List P3) (i j:Nat) (x:P3) (hi:i<l.length):(l.set i x).getD j (0,0,0)=if i=j then x else l.getD j (0,0,0):=by
  rw [List.getD_eq_getElem?_getD,List.getD_eq_getElem?_getD,List.getElem?_set]
  by_cases e:i=j
  · rw [if_pos e,if_pos e,if_pos hi];rfl
  · rw [if_neg e,if_neg e]
theorem pl_at {n a b:Int} {p:List P3} (ha:0≤a∧a<n) (hb:0≤b∧b<n) (hab:a≠b): ∀ i:Nat,(i:Int)≤n→∀ v:Nat,v<i→(v:Int)≠a→(plL p (imgL n a b) (n - 1) a i).getD (mapV v a b).toNat (0,0,0)=p.getD v (0,0,0)
  | 0,_,v,hv,_=>absurd hv (by omega)
  | i + 1,hi,v,hv,hva=>by
    have hl:=imgL_len n a b
    have hg:=imgL_get (n:=n) (a:=a) (b:=b) (v:=i) (by omega)
    have hr:=mapV_rng (n:=n) (a:=a) (b:=b) (v:=i) ⟨by omega,by omega⟩ hb ha hab
    have hq:=plL_len p (imgL n a b) (n - 1) a i
    by_cases e:(i:Int)=a
    · rw [plL_n (by omega)]
      exact pl_at ha hb hab i (by omega) v (by omega) hva
    · rw [plL_y ⟨e,by omega,by rw [hg];omega,by rw [hg];omega⟩,hg,getD_setP _ _ _ _ (by omega)]
      by_cases e2:v=i
      · subst e2;rw [if_pos rfl]
      · have hr2:=mapV_rng (n:=n) (a:=a) (b:=b) (v:=v) ⟨by omega,by omega⟩ hb ha hab
        rw [if_neg fun k=>e2 (by have:=mapV_inj (a:=a) (b:=b) (v:=v) (w:=i) (by omega) (by omega) hva e (by omega);omega)]
        exact pl_at ha hb hab i (by omega) v (by omega) hva
theorem pl_stay {n a b:Int} {p:List P3} (ha:0≤a∧a<n) (hb:0≤b∧b<n) (hab:a≠b) (hp:(p.length:Int)=n):Stay n a b p (plL p (imgL n a b) (n - 1) a p.length) :=
  ⟨by rw [plL_len];omega,hp,fun v hv hva=>pl_at ha hb hab p.length (by omega) v (by omega) hva,⟨ha.1,ha.2,hb.1,hb.2,hab⟩⟩
def collXC (d:ColT):List AV→Option Res:=con2 soupE (.int .u8) (fun s c=>some (none,some (colR s c=d),colV d))
theorem collXRow (d:ColT):FnRow Tryz.prog 20 (collXC d):=⟨con2_ok fun s c r h=>by
  cases h
  intro σ vals w hag hv
  refine ⟨trivial,fun hq=> ?_⟩
  have hq:colR s c=d:=hq
  subst hq
  exact (collRow.1 _ _ (rfl:collC [soupE.av s,(ETy.int .u8).av c]=_) σ vals w hag hv).2 trivial,_,Tryz.func20,by kernel_rfl,by kernel_rfl⟩
attribute [local irreducible] plL moveR worstR simpR dsmallR colR farI
theorem lawDC_vc (n:Int) (l L:List P3) (c:Int) (p:List P3) (im:List Int) (a b:Int) (A Fn:List Int) (R:List P3) (hd:colR (n,l) c=((n - 1,L),im,(a,b,A,R,Fn),true)) (hr:(0≤a∧a<n)∧(0≤b∧b<n)∧n≤4096)
    (hp:(p.length:Int)=n→moveR p im (plL p im (n - 1) a p.length)=(farI (p.getD a.toNat (0,0,0)) (p.getD b.toNat (0,0,0)),0)∧(worstR p im (plL p im (n - 1) a p.length)).2=true∧(farI (p.getD a.toNat (0,0,0)) (p.getD b.toNat (0,0,0))≠0→(worstR p im (plL p im (n - 1) a p.length)).1=a))
    (hs:simpR (n,l) (n - 1,L) im=true):afun ⟨tyL,[(18,dawakeC),(19,dsmallC),(20,collXC ((n-1,L),im,(a,b,A,R,Fn),true)),(21,plC),(22,dmoveC),(23,dworstC),(24,dsimpC),(25,dfarC)],[]⟩ Tryz.f6 [soupE.av (n,l),(ETy.int .u8).av c,(ETy.sl .arr3).av p] (fun r=>r= .s (.bool true)):=by
  repeat' (conv=>whnf
           first | done | refine qN (by first | rfl | omega | (simp only [i64ok] at *;omega)) ?_ | apply qH | refine qG fun _=> ?_ | apply qB | apply qa | apply qo | refine qe (fun _=> ?_) (fun _=> ?_) | refine qn (fun _=> ?_) (fun _=> ?_) | refine qd (fun _=> ?_) (fun _=> ?_) | apply qt | refine qi (fun _=> ?_) (fun _=> ?_) | refine And.intro rfl ?_ | apply qE | apply qO | exact True.intro | apply qq | apply qs | refine qK (by kernel_rfl) ?_ | apply qr)
  all_goals try first | apply qz1 | apply qz2 | apply qz3 | apply qz4 | apply qz5 | apply qz6 | apply qz7 | apply qz8 | apply qz9 | apply qz0
  all_goals try simp only [take_one,take_one',set_one,take_all,qn1,rec_self,qn2,pair_eta,ETy.dflt,qn3,qn4,Int.reduceToNat,Int.reduceAdd,Int.reduceSub,Int.reduceNeg,Nat.reduceAdd,Nat.zero_add] at *
  all_goals try first
    | exact Hold.intro hd
    | (refine Hold.intro ?_;omega)
  all_goals have hq:=hp (by assumption)
  all_goals simp only [hq.1,hs] at *
  all_goals first
    | (refine Hold.intro ?_;omega)
    | exact absurd rfl (by assumption)
    | contradiction
    | exact absurd (hq.2.1.symm.trans (by assumption:(worstR p im (plL p im (n - 1) a p.length)).2=false)) (by decide)
    | exact absurd (hq.2.2 (by assumption)) (by assumption)
    | (rw [hq.2.2 (by assumption)];exact beq_self_eq_true _)
    | rfl
theorem lawDC0_vc (n:Int) (l:List P3) (c:Int) (p:List P3) (s2:SoT) (im:List Int) (r:RecT) (hd:colR (n,l) c=(s2,im,r,false)):afun ⟨tyL,[(18,dawakeC),(19,dsmallC),(20,collXC (s2,im,r,false)),(21,plC),(22,dmoveC),(23,dworstC),(24,dsimpC),(25,dfarC)],[]⟩ Tryz.f6 [soupE.av (n,l),(ETy.int .u8).av c,(ETy.sl .arr3).av p] (fun r=>r= .s (.bool true)):=by
  repeat' (conv=>whnf
           first | done | refine qN (by first | rfl | omega | (simp only [i64ok] at *;omega)) ?_ | apply qH | refine qG fun _=> ?_ | apply qB | apply qa | apply qo | refine qe (fun _=> ?_) (fun _=> ?_) | refine qn (fun _=> ?_) (fun _=> ?_) | refine qd (fun _=> ?_) (fun _=> ?_) | apply qt | refine qi (fun _=> ?_) (fun _=> ?_) | refine And.intro rfl ?_ | apply qE | apply qO | exact True.intro | apply qq | apply qs | refine qK (by kernel_rfl) ?_ | apply qr)
  all_goals try first | apply qz1 | apply qz2 | apply qz3 | apply qz4 | apply qz5 | apply qz6 | apply qz7 | apply qz8 | apply qz9 | apply qz0
  all_goals try simp only [take_one,take_one',set_one,take_all,qn1,rec_self,qn2,pair_eta,ETy.dflt,qn3,qn4,Int.reduceToNat,Int.reduceAdd,Int.reduceSub,Int.reduceNeg,Nat.reduceAdd,Nat.zero_add] at *
  all_goals exact Hold.intro hd
def lawDCC:List AV→Option Res:=con3 soupE (.int .u8) (.sl .arr3) (fun _ _ _=>some (none,none,.s (.bool true)))
theorem lawDCRow:FnRow Tryz.prog 6 lawDCC:=⟨con3_ok fun s c p r h=>by
  cases h
  by_cases k:colOk s c
  · exact fn_by (rulesF (fn:=[(18,dawakeC),(19,dsmallC),(20,collXC _),(21,plC),(22,dmoveC),(23,dworstC),(24,dsimpC),(25,dfarC)]) (fr:=[]) ⟨dawakeRow,dsmallRow,(collXRow _),plRow,dmoveRow,dworstRow,dsimpRow,dfarRow,trivial⟩ trivial) Tryz.func6 (by kernel_rfl) fun hg _=>by
      have hdo:=colOk_do (InK.u8 hg.2.1).1 k
      obtain ⟨hs,ha,hb,_,hab⟩:=doE_why hdo
      exact lawDC_vc s.1 s.2 _ c p _ _ _ _ _ _ (colR_ok k) ⟨ha,hb,hs.fit.2.1⟩ (fun hp=>by
        have st:=pl_stay ha hb hab hp
        exact ⟨st.moves,st.worst⟩) (simp_col hdo)
  · exact fn_by (rulesF (fn:=[(18,dawakeC),(19,dsmallC),(20,collXC _),(21,plC),(22,dmoveC),(23,dworstC),(24,dsimpC),(25,dfarC)]) (fr:=[]) ⟨dawakeRow,dsmallRow,(collXRow _),plRow,dmoveRow,dworstRow,dsimpRow,dfarRow,trivial⟩ trivial) Tryz.func6 (by kernel_rfl) fun _ _=>lawDC0_vc s.1 s.2 c p _ _ _ (colR_nope k),_,Tryz.func6,by kernel_rfl,by kernel_rfl⟩
end S1
