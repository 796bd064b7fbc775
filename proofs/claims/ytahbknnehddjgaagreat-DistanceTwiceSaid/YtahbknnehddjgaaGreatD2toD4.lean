/- A part of the proofs of the laws. -/
import Derived.Test.YtahbknnehddjgaaGreatY6toY15a
import Derived.Test.YtahbknnehddjgaaGreatR1toF6
set_option linter.unusedSimpArgs false
set_option linter.unusedVariables false
set_option maxHeartbeats 8000000
set_option maxRecDepth 100000
open Go Go.Vm Go.Proofs
open S9 (surf9C surf9Row surfR surf9_iff)
namespace S1
theorem surfR_new (s:SoT):surfR s=true↔∃ x,newO s=some x:=by
  rw [surf9_iff]
  exact ⟨fun h=>⟨_,(new_of h).1⟩,fun ⟨_,h⟩=>(new_full h).2.2⟩
def sfXC (x:tabE.T):List AV→Option Res:=con1 soupE (fun s=>some (none,some (dgreatR s=false∧newO s=some x),.tup [(ETy.pt tabE).av (some x),.s (.bool true)]))
def sfNC:List AV→Option Res:=con1 soupE (fun s=>some (none,some (dgreatR s=true∨newO s=none),.tup [.s (.val (.pointer none)),.s (.bool false)]))
attribute [local irreducible] surfR dgreatR
theorem sfX_vc (n:Int) (l:List P3) (x:tabE.T) (h:dgreatR (n,l)=false∧newO (n,l)=some x):afun ⟨tyL,[(74,dgreatC),(75,surf9C),(28,newXC x)],[]⟩ Tryz.f43 [soupE.av (n,l)] (fun r=>r= .tup [(ETy.pt tabE).av (some x),.s (.bool true)]):=by
  have h1:surfR (n,l)=true:=(surfR_new _).2 ⟨_,h.2⟩
  repeat' (conv=>whnf
           first | done | refine qN (by first | rfl | omega | (simp only [i64ok] at *;omega)) ?_ | apply qH | refine qG fun _=> ?_ | apply qB | apply qa | apply qo | refine qe (fun _=> ?_) (fun _=> ?_) | refine qn (fun _=> ?_) (fun _=> ?_) | refine qd (fun _=> ?_) (fun _=> ?_) | apply qt | refine qi (fun _=> ?_) (fun _=> ?_) | refine And.intro rfl ?_ | apply qE | apply qO | exact True.intro | apply qq | apply qs | refine qK (by kernel_rfl) ?_ | apply qr)
  all_goals try first | apply qz1 | apply qz2 | apply qz3 | apply qz4 | apply qz5 | apply qz6 | apply qz7 | apply qz8 | apply qz9 | apply qz0
  all_goals try simp only [take_one,take_one',set_one,take_all,qn1,rec_self,qn2,pair_eta,ETy.dflt,qn3,qn4,Int.reduceToNat,Int.reduceAdd,Int.reduceSub,Int.reduceNeg,Nat.reduceAdd,Nat.zero_add] at *
  all_goals first
    | exact Hold.intro h.2
    | (rw [h.1] at *;contradiction)
    | (rw [h1] at *;contradiction)
    | exact HoldEq.intro rfl
theorem sfN_vc (n:Int) (l:List P3) (x:tabE.T) (h:dgreatR (n,l)=true∨newO (n,l)=none):afun ⟨tyL,[(74,dgreatC),(75,surf9C),(28,newXC x)],[]⟩ Tryz.f43 [soupE.av (n,l)] (fun r=>r= .tup [.s (.val (.pointer none)),.s (.bool false)]):=by
  have h1:dgreatR (n,l)=false→surfR (n,l)=false:=fun e=>by
    cases hs:surfR (n,l) with
    | false=>rfl
    | true =>
      obtain ⟨x,hx⟩:=(surfR_new _).1 hs
      rcases h with h | h
      · rw [h] at e;cases e
      · rw [hx] at h;cases h
  repeat' (conv=>whnf
           first | done | refine qN (by first | rfl | omega | (simp only [i64ok] at *;omega)) ?_ | apply qH | refine qG fun _=> ?_ | apply qB | apply qa | apply qo | refine qe (fun _=> ?_) (fun _=> ?_) | refine qn (fun _=> ?_) (fun _=> ?_) | refine qd (fun _=> ?_) (fun _=> ?_) | apply qt | refine qi (fun _=> ?_) (fun _=> ?_) | refine And.intro rfl ?_ | apply qE | apply qO | exact True.intro | apply qq | apply qs | refine qK (by kernel_rfl) ?_ | apply qr)
  all_goals try first | apply qz1 | apply qz2 | apply qz3 | apply qz4 | apply qz5 | apply qz6 | apply qz7 | apply qz8 | apply qz9 | apply qz0
  all_goals try simp only [take_one,take_one',set_one,take_all,qn1,rec_self,qn2,pair_eta,ETy.dflt,qn3,qn4,Int.reduceToNat,Int.reduceAdd,Int.reduceSub,Int.reduceNeg,Nat.reduceAdd,Nat.zero_add] at *
  all_goals first
    | exact HoldEq.intro rfl
    | exact absurd ((h1 (by assumption)).symm.trans (by assumption:surfR (n,l)=true)) (by decide)
theorem sfXRow (x:tabE.T):FnRow Tryz.prog 43 (sfXC x):=⟨con1_ok fun s r h=>by
  cases h;exact fn_by (rulesF (fn:=[(74,dgreatC),(75,surf9C),(28,newXC x)]) (fr:=[]) ⟨dgreatRow,surf9Row,(newXRow x),trivial⟩ trivial) Tryz.func43 (by kernel_rfl) fun _ h=>sfX_vc s.1 s.2 x h,_,Tryz.func43,by kernel_rfl,by kernel_rfl⟩
theorem sfNRow:FnRow Tryz.prog 43 sfNC:=⟨con1_ok fun s r h=>by
  cases h;exact fn_by (rulesF (fn:=[(74,dgreatC),(75,surf9C),(28,newXC _)]) (fr:=[]) ⟨dgreatRow,surf9Row,(newXRow _),trivial⟩ trivial) Tryz.func43 (by kernel_rfl) fun _ h=>sfN_vc s.1 s.2 (newT (0,[])) h,_,Tryz.func43,by kernel_rfl,by kernel_rfl⟩
abbrev ColT:=SoT×List Int×RecT×Bool
def colE (s:SoT) (c:Int):Int×Int:=tEdge (newT s) (c.tmod (3*(s.2.length:Int)))
def colOk (s:SoT) (c:Int):Prop:=(dgreatR s=false∧isR s=true)∧(s.2.length:Int)≠0∧whyR (newT s) (colE s c).1 (colE s c).2=0
instance (s:SoT) (c:Int):Decidable (colOk s c):=inferInstanceAs (Decidable (_∧_))
def colR (s:SoT) (c:Int):ColT:=if colOk s c then ((s.1 - 1,drL (colE s c).1 (colE s c).2 s.2 s.2.length),imgL s.1 (colE s c).1 (colE s c).2,recR s (colE s c).1 (colE s c).2,true) else (s,[],(0,0,[],[],[]),false)
def colV (d:ColT):AV:= .tup [soupE.av d.1,.s (.sl i64E d.2.1),recE.av d.2.2.1,.s (.bool d.2.2.2)]
def colW (d:ColT):AV:=if d.2.2.2=true then colV d else .tup [soupE.av d.1,.s (.sl i64E d.2.1),.agg [.int .i64 0,.int .i64 0,.val (.slice none 0 0),.val (.slice none 0 0),.val (.slice none 0 0)],.s (.bool false)]
theorem colW_rep {σ:Sig} {s:SoT} {c:Int} {v:Value} (h:VRep σ [] (colW (colR s c)) v):VRep σ [] (colV (colR s c)) v:=by
  by_cases he:colOk s c
  · unfold colW colR at h;rw [if_pos he,if_pos rfl] at h
    unfold colR;rw [if_pos he];exact h
  · unfold colW colR at h;rw [if_neg he,if_neg (show ¬ false=true by decide)] at h
    unfold colR;rw [if_neg he]
    obtain ⟨vs,e1,h⟩:=h
    match vs,h with
    | [x,y,z,w],⟨h1,h2,⟨dt,eb,h3⟩,h4⟩ =>
      refine ⟨_,e1,h1,h2,⟨dt,eb,?_⟩,h4⟩
      match dt,h3 with
      | [d1,d2,d3,d4,d5],⟨k1,k2,k3,k4,k5,k6⟩=>exact ⟨k1,k2,nil_sl k3,nil_sl k4,nil_sl k5,k6⟩
def imP (m:Int→Int) (i:Nat):List Int:=(List.range i).map fun v:Nat=>m (v:Int)
theorem imgL_imP (n a b:Int):imgL n a b=imP (fun v=>mapV v a b) n.toNat:=rfl
theorem imP_0 (m:Int→Int):imP m 0=[]:=rfl
theorem imP_s (m:Int→Int) (i:Nat):imP m (i+1)=imP m i++[m (i:Int)]:=by unfold imP;rw [List.range_succ,List.map_append];rfl
theorem imP_len (m:Int→Int) (i:Nat):(imP m i).length=i:=by unfold imP;rw [List.length_map,List.length_range]
def loopCo (n:Int) (m:Int→Int):Spec Nat where
  inv i:=i≤n.toNat
  live i:=[(65,.s (.int .i64 i)),(14,.s (.own 7 0 (imP m i).length))]
  keep:=[2,4,6,11,12,64]
  heap i:=[(7,.row i64E 3 (imP m i))]
  keepH:=[0,1,2,3,4,5,6]
  mu i:=n.toNat - i
attribute [local irreducible] colW doR whyR mapV newT tEdge imP
theorem col_vc (n:Int) (l L:List P3) (A Fn:List Int) (R:List P3) (c:Int) (m:Int→Int) (x:tabE.T) (E:Int×Int) (hc:0≤c∧c≤255) (hg:dgreatR (n,l)=false) (hx:newO (n,l)=some x) (hE:tEdge x (c.tmod (3*(l.length:Int)))=E) (hm: ∀ v,m v=mapV v E.1 E.2)
    (hY:(l.length:Int)≠0→whyO (some x) E.1 E.2=0→doR (n,l) E.1 E.2=((n - 1,L),(E.1,E.2,A,R,Fn),0)∧colW (colR (n,l) c)=colV ((n - 1,L),imP m n.toNat,(E.1,E.2,A,R,Fn),true)∧((0≤E.2∧E.2<n)∧n≤4096))
    (hN:(l.length:Int)=0∨whyO (some x) E.1 E.2≠0→colW (colR (n,l) c)= .tup [soupE.av (n,l),.s (.sl i64E []),.agg [.int .i64 0,.int .i64 0,.val (.slice none 0 0),.val (.slice none 0 0),.val (.slice none 0 0)],.s (.bool false)]):afun ⟨tyL,[(43,sfXC x),(44,edgeC),(45,mayC),(11,cdoXC ((n-1,L),(E.1,E.2,A,R,Fn),0)),(34,cmapXC (E.1,E.2,m))],[]⟩ Tryz.f20 [soupE.av (n,l),(ETy.int .u8).av c] (fun r=>r=colW (colR (n,l) c)):=by
  obtain ⟨_,g,hs⟩:=new_full hx
  have hf:=hs.fit
  have hl:l.length≤8192:=hf.2.2.1
  have hn:0≤n∧n≤4096:=⟨hf.1,hf.2.1⟩
  repeat' (conv=>whnf
           first | done | refine qN (by first | rfl | omega | (simp only [i64ok] at *;omega)) ?_ | apply qH | refine qG fun _=> ?_ | apply qB | apply qa | apply qo | refine qe (fun _=> ?_) (fun _=> ?_) | refine qn (fun _=> ?_) (fun _=> ?_) | refine qd (fun _=> ?_) (fun _=> ?_) | apply qt | refine qi (fun _=> ?_) (fun _=> ?_) | (refine atReg 12 rfl ?_;refine Or.inr (Exists.intro (Nat) (Exists.intro (loopCo n m) (And.intro (Exists.intro (0) (And.intro (Hold.out ?_) (And.intro ?_ (And.intro ?_ rfl)))) (fun i hi=> ?_))))) | ((with_reducible show (∃ y,And (Spec.inv (loopCo _ _) y) _));refine Exists.intro (i+1) (And.intro (Hold.out ?_) (And.intro (And.intro ?_ (And.intro ?_ rfl)) (Hold.out ?_)))) | refine And.intro rfl ?_ | apply qE | apply qO | exact True.intro | apply qq | apply qs | refine qK (by kernel_rfl) ?_ | apply qr)
  all_goals try first | apply qz1 | apply qz2 | apply qz3 | apply qz4 | apply qz5 | apply qz6 | apply qz7 | apply qz8 | apply qz9 | apply qz0
  all_goals try simp only [take_one,take_one',set_one,take_all,qn1,rec_self,qn2,pair_eta,ETy.dflt,qn3,qn4,Int.reduceToNat,Int.reduceAdd,Int.reduceSub,Int.reduceNeg,Nat.reduceAdd,Nat.zero_add,loopCo] at *
  all_goals try rw [hE] at *
  all_goals try first
    | exact Hold.intro ⟨hg,hx⟩
    | (rw [hN (.inl (by omega))];exact HoldEq.intro rfl)
    | (rw [hN (.inr (by assumption))];exact HoldEq.intro rfl)
    | exact Hold.intro (fun y e=>by cases e;exact g.toGood)
    | (rw [imP_0];done)
    | (rw [imP_0];rfl)
    | (rw [imP_s];done)
    | (rw [imP_len,imP_len];done)
    | exact Hold.intro (Int.le_trans (Int.le_of_lt (Int.tmod_lt_of_pos c (show 0<3*(l.length:Int) by omega))) (by omega))
    | (refine Hold.intro ?_;omega)
    | (refine Hold.intro ?_;unfold i64ok;omega)
    | (refine Hold.intro ?_;rw [imP_len];omega)
  all_goals have hy:=hY (by assumption) (by assumption)
  all_goals first
    | exact Hold.intro hy.1
    | exact Hold.intro ⟨by omega,by omega,trivial,trivial,hm _⟩
    | (rw [hy.2.1,show i=n.toNat by omega];exact HoldEq.intro rfl)
theorem col0_vc (n:Int) (l L:List P3) (A Fn:List Int) (R:List P3) (c:Int) (m:Int→Int) (E:Int×Int) (x:tabE.T) (h:dgreatR (n,l)=true∨newO (n,l)=none) (hN:colW (colR (n,l) c)= .tup [soupE.av (n,l),.s (.sl i64E []),.agg [.int .i64 0,.int .i64 0,.val (.slice none 0 0),.val (.slice none 0 0),.val (.slice none 0 0)],.s (.bool false)]):afun ⟨tyL,[(43,sfNC),(44,edgeC),(45,mayC),(11,cdoXC ((n-1,L),(E.1,E.2,A,R,Fn),0)),(34,cmapXC (E.1,E.2,m))],[]⟩ Tryz.f20 [soupE.av (n,l),(ETy.int .u8).av c] (fun r=>r=colW (colR (n,l) c)):=by
  repeat' (conv=>whnf
           first | done | refine qN (by first | rfl | omega | (simp only [i64ok] at *;omega)) ?_ | apply qH | refine qG fun _=> ?_ | apply qB | apply qa | apply qo | refine qe (fun _=> ?_) (fun _=> ?_) | refine qn (fun _=> ?_) (fun _=> ?_) | refine qd (fun _=> ?_) (fun _=> ?_) | apply qt | refine qi (fun _=> ?_) (fun _=> ?_) | refine And.intro rfl ?_ | apply qE | apply qO | exact True.intro | apply qq | apply qs | refine qK (by kernel_rfl) ?_ | apply qr)
  all_goals try first | apply qz1 | apply qz2 | apply qz3 | apply qz4 | apply qz5 | apply qz6 | apply qz7 | apply qz8 | apply qz9 | apply qz0
  all_goals try simp only [take_one,take_one',set_one,take_all,qn1,rec_self,qn2,pair_eta,ETy.dflt,qn3,qn4,Int.reduceToNat,Int.reduceAdd,Int.reduceSub,Int.reduceNeg,Nat.reduceAdd,Nat.zero_add] at *
  all_goals first
    | exact Hold.intro h
    | (rw [hN];exact HoldEq.intro rfl)
theorem colR_no {s:SoT} {c:Int} (h: ¬ colOk s c):colW (colR s c)= .tup [soupE.av s,.s (.sl i64E []),.agg [.int .i64 0,.int .i64 0,.val (.slice none 0 0),.val (.slice none 0 0),.val (.slice none 0 0)],.s (.bool false)]:=by
  unfold colR;rw [if_neg h];unfold colW;rw [if_neg (show ¬ false=true by decide)]
theorem colR_nope {s:SoT} {c:Int} (h: ¬ colOk s c):colR s c=(s,[],(0,0,[],[],[]),false):=if_neg h
theorem colR_ok {s:SoT} {c:Int} (h:colOk s c):colR s c=((s.1 - 1,drL (colE s c).1 (colE s c).2 s.2 s.2.length),imgL s.1 (colE s c).1 (colE s c).2,recR s (colE s c).1 (colE s c).2,true):=if_pos h
theorem colOk_do {s:SoT} {c:Int} (hc:0≤c) (h:colOk s c):doE s (colE s c).1 (colE s c).2=0:=by
  obtain ⟨⟨_,h1⟩,h2,h3⟩:=h
  have hs:=(is_surf s).1 h1
  obtain ⟨_,g,e⟩:=new_of hs
  have hab:=near_in g.toGood (why_0 h3).1
  rw [e] at hab
  rw [doE_surf hs,if_pos hab,h3];rfl
def collC:List AV→Option Res:=con2 soupE (.int .u8) (fun s c=>some (none,none,colV (colR s c)))
theorem collRow:FnRow Tryz.prog 20 collC:=⟨con2_ok fun s c r h=>by
  cases h
  by_cases hg:dgreatR s=true
  · exact FnOk.res (fn_by (rulesF (fn:=[(43,sfNC),(44,edgeC),(45,mayC),(11,cdoXC _),(34,cmapXC _)]) (fr:=[]) ⟨sfNRow,edgeRow,mayRow,(cdoXRow _),(cmapXRow _),trivial⟩ trivial) Tryz.func20 (by kernel_rfl) fun _ _=>col0_vc s.1 s.2 [] [] [] [] c (fun _=>0) (0,0) (newT (0,[])) (.inl hg) (colR_no fun k=>by rw [k.1.1] at hg;cases hg)) fun σ v h=>colW_rep h
  · have hg:dgreatR s=false:=by simpa using hg
    cases hx:newO s with
    | none=>exact FnOk.res (fn_by (rulesF (fn:=[(43,sfNC),(44,edgeC),(45,mayC),(11,cdoXC _),(34,cmapXC _)]) (fr:=[]) ⟨sfNRow,edgeRow,mayRow,(cdoXRow _),(cmapXRow _),trivial⟩ trivial) Tryz.func20 (by kernel_rfl) fun _ _=>col0_vc s.1 s.2 [] [] [] [] c (fun _=>0) (0,0) (newT (0,[])) (.inr hx) (colR_no fun k=>by have:=(new_of ((is_surf s).1 k.1.2)).1;rw [hx] at this;cases this)) fun σ v h=>colW_rep h
    | some x =>
      obtain ⟨ex,g,hs⟩:=new_full hx
      exact FnOk.res (fn_by (rulesF (fn:=[(43,sfXC _),(44,edgeC),(45,mayC),(11,cdoXC _),(34,cmapXC _)]) (fr:=[]) ⟨(sfXRow _),edgeRow,mayRow,(cdoXRow _),(cmapXRow _),trivial⟩ trivial) Tryz.func20 (by kernel_rfl) fun hgd _=>col_vc s.1 s.2 (drL (colE s c).1 (colE s c).2 s.2 s.2.length) (atL (colE s c).1 (colE s c).2 s.2 s.2.length) (fanL (colE s c).1 (colE s c).2 s.2 s.2.length) (rtL (colE s c).1 (colE s c).2 s.2 s.2.length) c (fun v=>mapV v (colE s c).1 (colE s c).2) x (colE s c) (InK.u8 hgd.2.1) hg hx (by unfold colE;rw [ex]) (fun _=>rfl)
        (fun h1 h2=>by
          have k:colOk s c:=⟨⟨hg,(is_surf s).2 hs⟩,h1,by rw [← ex];exact h2⟩
          have hd:=colOk_do (InK.u8 hgd.2.1).1 k
          have hw:=doE_why hd
          refine ⟨doR_0 hd,?_,hw.2.2.1,hs.fit.2.1⟩
          rw [colR_ok k];unfold colW;rw [if_pos rfl,← imgL_imP];rfl)
        (fun h1=>colR_no fun k=>by
          rcases h1 with h1 | h1
          · exact k.2.1 h1
          · exact h1 (by rw [ex];exact k.2.2))) fun σ v h=>colW_rep h,_,Tryz.func20,by kernel_rfl,by kernel_rfl⟩
def plF (p:List P3) (im:List Int) (N gone:Int) (q:List P3) (v:Nat):List P3:=if (v:Int)≠gone∧v<im.length∧im.getD v 0≥0∧im.getD v 0<N then q.set (im.getD v 0).toNat (p.getD v (0,0,0)) else q
def plL (p:List P3) (im:List Int) (N gone:Int) (i:Nat):List P3:=irec (plF p im N gone) (List.replicate N.toNat (0,0,0)) i
theorem plL_len (p:List P3) (im:List Int) (N gone:Int): ∀ i,(plL p im N gone i).length=N.toNat
  | 0=>by show (List.replicate N.toNat ((0:Int),(0:Int),(0:Int))).length=_;rw [List.length_replicate]
  | i+1=>by
    show (plF p im N gone (plL p im N gone i) i).length=_
    unfold plF
    split
    · rw [List.length_set];exact plL_len p im N gone i
    · exact plL_len p im N gone i
def loopPl (p:List P3) (im:List Int) (N gone:Int):Spec Nat where
  inv i:=i≤p.length
  live i:=[(15,.s (.int .i64 i))]
  keep:=[0,1,2,3,9,14]
  heap i:=[(1,.row .arr3 57 (plL p im N gone i))]
  keepH:=[0]
  mu i:=p.length - i
theorem plL_0 (p:List P3) (im:List Int) (N gone:Int):plL p im N gone 0=List.replicate N.toNat (0,0,0):=rfl
theorem plL_y {p:List P3} {im:List Int} {N gone:Int} {i:Nat} (h:(i:Int)≠gone∧i<im.length∧im.getD i 0≥0∧im.getD i 0<N):plL p im N gone (i+1)=(plL p im N gone i).set (im.getD i 0).toNat (p.getD i (0,0,0)):=if_pos h
theorem plL_n {p:List P3} {im:List Int} {N gone:Int} {i:Nat} (h: ¬ ((i:Int)≠gone∧i<im.length∧im.getD i 0≥0∧im.getD i 0<N)):plL p im N gone (i+1)=plL p im N gone i:=if_neg h
attribute [local irreducible] plL
theorem pl_vc {fn} (p:List P3) (im:List Int) (N gone:Int) (hN:0≤N∧N≤100000):afun ⟨tyL,fn,[]⟩ Tryz.f21 [(ETy.sl .arr3).av p,(ETy.sl i64E).av im,i64E.av N,i64E.av gone] (fun r=>r= .s (.sl .arr3 (plL p im N gone p.length))):=by
  repeat' (conv=>whnf
           first | done | refine qN (by first | rfl | omega | (simp only [i64ok] at *;omega)) ?_ | apply qH | refine qG fun _=> ?_ | apply qB | apply qa | apply qo | refine qe (fun _=> ?_) (fun _=> ?_) | refine qn (fun _=> ?_) (fun _=> ?_) | refine qd (fun _=> ?_) (fun _=> ?_) | apply qt | refine qi (fun _=> ?_) (fun _=> ?_) | (refine atReg 3 rfl ?_;refine Or.inr (Exists.intro (Nat) (Exists.intro (loopPl p im N gone) (And.intro (Exists.intro (0) (And.intro (Hold.out ?_) (And.intro ?_ (And.intro ?_ rfl)))) (fun i hi=> ?_))))) | ((with_reducible show (∃ y,And (Spec.inv (loopPl _ _ _ _) y) _));refine Exists.intro (i+1) (And.intro (Hold.out ?_) (And.intro (And.intro ?_ (And.intro ?_ rfl)) (Hold.out ?_)))) | refine And.intro rfl ?_ | apply qE | apply qO | exact True.intro | apply qq | apply qs | refine qK (by kernel_rfl) ?_ | apply qr)
  all_goals try first | apply qz1 | apply qz2 | apply qz3 | apply qz4 | apply qz5 | apply qz6 | apply qz7 | apply qz8 | apply qz9 | apply qz0
  all_goals try simp only [take_one,take_one',set_one,take_all,qn1,rec_self,qn2,pair_eta,ETy.dflt,qn3,qn4,Int.reduceToNat,Int.reduceAdd,Int.reduceSub,Int.reduceNeg,Nat.reduceAdd,Nat.zero_add,loopPl] at *
  all_goals try first
    | (rw [plL_0];done)
    | (rw [plL_0];exact HoldOb.intro rfl)
    | (refine Hold.intro ?_;omega)
  all_goals have hq:=plL_len p im N gone i
  all_goals try first
    | (rw [plL_0];done)
    | (rw [plL_0];exact HoldOb.intro rfl)
    | (refine Hold.intro ?_;omega)
    | (refine Hold.intro ?_;unfold i64ok;omega)
    | (rw [plL_y (by omega)];done)
    | (rw [plL_n (by omega)];done)
    | (rw [show i=p.length by omega];done)
    | (rw [show i=p.length by omega];exact HoldEq.intro rfl)
    | (have e:i=p.length:=by omega
       subst e;exact HoldEq.intro rfl)
  have hi9:i=p.length:=by omega
  subst hi9
  rw [List.drop_zero,← hq,List.take_length]
def plC:List AV→Option Res:=con4 (.sl .arr3) (.sl i64E) i64E i64E (fun p im (N gone:Int)=>some (none,some (0≤N∧N≤100000),.s (.sl .arr3 (plL p im N gone p.length))))
theorem plRow:FnRow Tryz.prog 21 plC:=⟨con4_ok fun p im N gone r h=>by cases h;exact fn_by (rulesF (fn:=[]) (fr:=[]) trivial trivial) Tryz.func21 (by kernel_rfl) fun _ h=>pl_vc p im N gone h,_,Tryz.func21,by kernel_rfl,by kernel_rfl⟩
end S1
open Go Go.Vm Go.Proofs
namespace S1
theorem mapV_inj {a b v w:Int} (hv:0≤v) (hw:0≤w) (h1:v≠a) (h2:w≠a) (h:mapV v a b=mapV w a b):v=w:=by
  unfold mapV at h
  (repeat' split at h)<;>omega
theorem getD_setP (l:List P3) (i j:Nat) (x:P3) (hi:i<l.length):(l.set i x).getD j (0,0,0)=if i=j then x else l.getD j (0,0,0):=by
  rw [List.getD_eq_getElem?_getD,List.getD_eq_getElem?_getD,List.getElem?_set]
  by_cases e:i=j
  · rw [if_pos e,if_pos e,if_pos hi];rfl
  · rw [if_neg e,if_neg e]
theorem pl_at {n a b:Int} {p:List P3} (ha:0≤a∧a<n) (hb:0≤b∧b<n) (hab:a≠b): ∀ i:Nat,(i:Int)≤n→∀ v:Nat,v<i→(v:Int)≠a→(plL p (imgL n a b) (n - 1) a i).getD (mapV v a b).toNat (0,0,0)=p.getD v (0,0,0)
  | 0,_,v,hv,_=>absurd hv (by omega)
  | i + 1,hi,v,hv,hva=>by
    have hl:=imgL_len n a b
    have hg:=imgL_get (n:=n) (a:=a) (b:=b) (v:=i) (by omega)
    have hr:=mapV_rng (n:=n) (a:=a) (b:=b) (v:=i) ⟨by omega,by omega⟩ hb ha hab
    have hq:=plL_len p (imgL n a b) (n - 1) a i
    by_cases e:(i:Int)=a
    · rw [plL_n (by omega)]
      exact pl_at ha hb hab i (by omega) v (by omega) hva
    · rw [plL_y ⟨e,by omega,by rw [hg];omega,by rw [hg];omega⟩,hg,getD_setP _ _ _ _ (by omega)]
      by_cases e2:v=i
      · subst e2;rw [if_pos rfl]
      · have hr2:=mapV_rng (n:=n) (a:=a) (b:=b) (v:=v) ⟨by omega,by omega⟩ hb ha hab
        rw [if_neg fun k=>e2 (by have:=mapV_inj (a:=a) (b:=b) (v:=v) (w:=i) (by omega) (by omega) hva e (by omega);omega)]
        exact pl_at ha hb hab i (by omega) v (by omega) hva
theorem pl_stay {n a b:Int} {p:List P3} (ha:0≤a∧a<n) (hb:0≤b∧b<n) (hab:a≠b) (hp:(p.length:Int)=n):Stay n a b p (plL p (imgL n a b) (n - 1) a p.length) :=
  ⟨by rw [plL_len];omega,hp,fun v hv hva=>pl_at ha hb hab p.length (by omega) v (by omega) hva,⟨ha.1,ha.2,hb.1,hb.2,hab⟩⟩
attribute [local irreducible] plL moveR worstR simpR dsmallR colR farI
end S1
open Go Go.Vm Go.Proofs
namespace S1
theorem far1_tri (p q r:Int):far1 p r≤far1 p q+far1 q r:=by unfold far1;omega
theorem far_tri (p q r:P3):farI p r≤farI p q+farI q r:=by
  have h1:=far1_tri p.1 q.1 r.1
  have h2:=far1_tri p.2.1 q.2.1 r.2.1
  have h3:=far1_tri p.2.2 q.2.2 r.2.2
  unfold farI
  generalize far1 p.1 r.1=x1 at *
  generalize far1 p.1 q.1=y1 at *
  generalize far1 q.1 r.1=z1 at *
  generalize far1 p.2.1 r.2.1=x2 at *
  generalize far1 p.2.1 q.2.1=y2 at *
  generalize far1 q.2.1 r.2.1=z2 at *
  generalize far1 p.2.2 r.2.2=x3 at *
  generalize far1 p.2.2 q.2.2=y3 at *
  generalize far1 q.2.2 r.2.2=z3 at *
  have a1:y1≤max (max y1 y2) y3:=by omega
  have a2:y2≤max (max y1 y2) y3:=by omega
  have a3:y3≤max (max y1 y2) y3:=by omega
  have b1:z1≤max (max z1 z2) z3:=by omega
  have b2:z2≤max (max z1 z2) z3:=by omega
  have b3:z3≤max (max z1 z2) z3:=by omega
  generalize max (max y1 y2) y3=Y at *
  generalize max (max z1 z2) z3=Z at *
  exact Int.max_le.2 ⟨Int.max_le.2 ⟨by omega,by omega⟩,by omega⟩
theorem edge_to {x:SoT} {a b:Int} (he:doE x a b=0) {u:P3} (hu:u∈x.2) {p q:Int} (hp:hasV u p) (hq:hasV u q) (hne:mapV p a b≠mapV q a b): ∃ w∈drL a b x.2 x.2.length,hasV w (mapV p a b)∧hasV w (mapV q a b):=by
  obtain ⟨hs,_,_,_,_⟩:=doE_why he
  obtain ⟨i,hi,e⟩:=mem_tg hu
  have k:=col_img he hi
  have hr:=triIn_spec (hs.fit.2.2.2 i hi)
  have e':x.2.getD i (0,0,0)=u:=e
  rw [e'] at hr
  obtain ⟨_,k2,k3,_⟩:=k
  rw [e] at k2 k3
  have eD:=img_map (a:=a) (b:=b) hr.1.1 hr.2.1.1 hr.2.2.1
  have im: ∀ {v},hasV u v→hasV (drT a b u) (mapV v a b):=fun {v} hv=>by
    rw [eD]
    rcases hv with h | h | h
    · exact .inl (by rw [h])
    · exact .inr (.inl (by rw [h]))
    · exact .inr (.inr (by rw [h]))
  cases hb:both a b u with
  | false =>
    obtain ⟨_,j1,j2,_⟩:=k2 hb
    exact ⟨_,tg_mem j1,by rw [j2];exact im hp,by rw [j2];exact im hq⟩
  | true =>
    have hn:=(k3 hb).2.2 _ _ (im hp) (im hq) hne
    obtain ⟨_,g2,e2⟩:=new_of (col_cnt he).u
    have:=(near_has g2 hne).1 hn
    rw [e2] at this
    exact this
def twoL (im im2:List Int):List Int:=im.map fun v=>im2.getD v.toNat 0
theorem twoL_get {im im2:List Int} {v:Nat} (h:v<im.length):(twoL im im2).getD v 0=im2.getD (im.getD v 0).toNat 0:=by
  unfold twoL
  rw [List.getD_eq_getElem?_getD,List.getElem?_eq_getElem (by rw [List.length_map];exact h),List.getElem_map,List.getD_eq_getElem?_getD (l:=im),List.getElem?_eq_getElem h];rfl
theorem fold_le {p z:List P3} {im:List Int} {B:Int} (h: ∀ v,v<im.length→farI (p.getD v (0,0,0)) (z.getD (im.getD v 0).toNat (0,0,0))≤B): ∀ (k i:Nat) (m:Int),i+k=im.length→m≤B→farFold p z i (im.drop i) m≤B
  | 0,i,m,e,hm=>by rw [List.drop_eq_nil_of_le (by omega)];exact hm
  | k+1,i,m,e,hm=>by
    rw [drop_at 0 (by omega)]
    exact fold_le h k (i+1) _ (by omega) (by have:=h i (by omega);omega)
theorem two_len (s:SoT) (a b a2 b2:Int):(twoL (imgL s.1 a b) (imgL (s.1 - 1) a2 b2)).length=s.1.toNat:=by unfold twoL;rw [List.length_map,imgL_len]
section
variable {s:SoT} {a b a2 b2:Int} (he:doE s a b=0) (he2:doE (s.1 - 1,drL a b s.2 s.2.length) a2 b2=0)
include he he2
theorem two_at (v:Nat) (hv:(v:Int)<s.1):(twoL (imgL s.1 a b) (imgL (s.1 - 1) a2 b2)).getD v 0=mapV (mapV v a b) a2 b2∧(0≤mapV v a b∧mapV v a b<s.1 - 1)∧(0≤mapV (mapV v a b) a2 b2∧mapV (mapV v a b) a2 b2<s.1 - 1 - 1):=by
  obtain ⟨_,ha,hb,_,hab⟩:=doE_why he
  obtain ⟨_,ha2,hb2,_,hab2⟩:=doE_why he2
  have r1:=mapV_rng (n:=s.1) (a:=a) (b:=b) (v:=v) ⟨by omega,hv⟩ hb ha hab
  have r2:=mapV_rng (n:=s.1 - 1) (a:=a2) (b:=b2) (v:=mapV v a b) r1 hb2 ha2 hab2
  refine ⟨?_,r1,r2⟩
  rw [twoL_get (by rw [imgL_len];omega),imgL_get hv,imgL_get (by omega),show (((mapV (v:Int) a b).toNat:Nat):Int)=mapV v a b by omega]
theorem two_bad:badAny (s.1 - 1 - 1) (twoL (imgL s.1 a b) (imgL (s.1 - 1) a2 b2))=false:=by
  have hl:(twoL (imgL s.1 a b) (imgL (s.1 - 1) a2 b2)).length=s.1.toNat:=two_len s a b a2 b2
  have: ∀ l:List Int,(∀ x∈l,0≤x∧x<s.1 - 1 - 1)→badAny (s.1 - 1 - 1) l=false:=fun l=>by
    induction l with
    | nil=>intro _;rfl
    | cons x r ih =>
      intro h
      have h1:=h x (List.mem_cons_self ..)
      unfold badAny
      rw [ih fun y hy=>h y (List.mem_cons_of_mem _ hy),decide_eq_false (by omega),decide_eq_false (by omega)];rfl
  apply this
  intro x hx
  obtain ⟨i,hi,e'⟩:=List.mem_iff_getElem.1 hx
  have e:(twoL (imgL s.1 a b) (imgL (s.1 - 1) a2 b2)).getD i 0=x:=by rw [List.getD_eq_getElem?_getD,List.getElem?_eq_getElem hi];exact e'
  rw [hl] at hi
  have k:=two_at he he2 i (by omega)
  rw [k.1] at e
  rw [← e];exact k.2.2
theorem simp_two:simpR s (s.1 - 1 - 1,drL a2 b2 (drL a b s.2 s.2.length) (drL a b s.2 s.2.length).length) (twoL (imgL s.1 a b) (imgL (s.1 - 1) a2 b2))=true:=by
  obtain ⟨hs,ha,hb,hw,hab⟩:=doE_why he
  have hS:=(col_cnt he).u
  have hS2:=(col_cnt he2).u
  have hn:=hs.fit.1
  have hl:(twoL (imgL s.1 a b) (imgL (s.1 - 1) a2 b2)).length=s.1.toNat:=by unfold twoL;rw [List.length_map,imgL_len]
  have hbad:=two_bad he he2
  unfold simpR simpG
  rw [fitsR_surf hs,fitsR_surf hS2,hbad]
  have e1:((twoL (imgL s.1 a b) (imgL (s.1 - 1) a2 b2)).length:Int)=s.1:=by rw [hl];omega
  rw [e1,show max s.1 0=s.1 by omega]
  simp only [beq_self_eq_true,Bool.true_and,Bool.not_false,List.all_eq_true]
  intro t ht
  obtain ⟨i,hi,e⟩:=mem_tg ht
  have k:=col_img he hi
  have hr:=triIn_spec (hs.fit.2.2.2 i hi)
  have e':s.2.getD i (0,0,0)=t:=e
  rw [e'] at hr
  have c1:=two_at he he2 t.1.toNat (by omega)
  have c2:=two_at he he2 t.2.1.toNat (by omega)
  have c3:=two_at he he2 t.2.2.toNat (by omega)
  rw [show ((t.1.toNat:Nat):Int)=t.1 by omega] at c1
  rw [show ((t.2.1.toNat:Nat):Int)=t.2.1 by omega] at c2
  rw [show ((t.2.2.toNat:Nat):Int)=t.2.2 by omega] at c3
  have eD:=img_map (a:=a) (b:=b) hr.1.1 hr.2.1.1 hr.2.2.1
  obtain ⟨_,k2,k3,_⟩:=k
  rw [e] at k2 k3
  rw [eD] at k2 k3
  have eD2:=img_map (a:=a2) (b:=b2) (t:=(mapV t.1 a b,mapV t.2.1 a b,mapV t.2.2 a b)) c1.2.1.1 c2.2.1.1 c3.2.1.1
  refine simpT_of (u:=(mapV (mapV t.1 a b) a2 b2,mapV (mapV t.2.1 a b) a2 b2,mapV (mapV t.2.2 a b) a2 b2)) (by rw [c1.1,c2.1,c3.1]) (fun hd=> ?_) (fun x y hx hy hne _=> ?_)
  · have hd1: ¬ dgn (mapV t.1 a b,mapV t.2.1 a b,mapV t.2.2 a b):=fun k=>by
      refine hd ?_
      rcases k with k | k | k
      · exact .inl (congrArg (fun z=>mapV z a2 b2) k)
      · exact .inr (.inl (congrArg (fun z=>mapV z a2 b2) k))
      · exact .inr (.inr (congrArg (fun z=>mapV z a2 b2) k))
    cases hb:both a b t with
    | true=>exact absurd (k3 hb).1 hd1
    | false =>
      obtain ⟨_,j1,j2,_⟩:=k2 hb
      obtain ⟨_,q2,q3,_⟩:=col_img he2 j1
      have j2':tg (s.1 - 1,drL a b s.2 s.2.length).2 (drL a b s.2 i).length=(mapV t.1 a b,mapV t.2.1 a b,mapV t.2.2 a b):=j2
      rw [j2',eD2] at q2 q3
      cases hb2:both a2 b2 (mapV t.1 a b,mapV t.2.1 a b,mapV t.2.2 a b) with
      | true=>exact absurd (q3 hb2).1 hd
      | false =>
        obtain ⟨_,r1,r2,_⟩:=q2 hb2
        exact ⟨_,tg_mem r1,by rw [r2]⟩
  · have pre: ∀ {z},hasV (mapV (mapV t.1 a b) a2 b2,mapV (mapV t.2.1 a b) a2 b2,mapV (mapV t.2.2 a b) a2 b2) z→∃ p,hasV (mapV t.1 a b,mapV t.2.1 a b,mapV t.2.2 a b) p∧mapV p a2 b2=z:=fun {z} hz=>by
      rcases hz with h | h | h
      · exact ⟨_,.inl rfl,h⟩
      · exact ⟨_,.inr (.inl rfl),h⟩
      · exact ⟨_,.inr (.inr rfl),h⟩
    obtain ⟨p,hp,ep⟩:=pre hx
    obtain ⟨q,hq,eq⟩:=pre hy
    have hpq:p≠q:=fun k=>hne (by rw [← ep,← eq,k])
    have: ∃ u∈drL a b s.2 s.2.length,hasV u p∧hasV u q:=by
      cases hb:both a b t with
      | false =>
        obtain ⟨_,j1,j2,_⟩:=k2 hb
        exact ⟨_,tg_mem j1,by rw [j2];exact hp,by rw [j2];exact hq⟩
      | true =>
        have hn:=(k3 hb).2.2 _ _ hp hq hpq
        obtain ⟨_,g2,e2⟩:=new_of hS
        have:=(near_has g2 hpq).1 hn
        rw [e2] at this
        exact this
    obtain ⟨u,hu,u1,u2⟩:=this
    have:=edge_to he2 hu u1 u2 (by rw [ep,eq];exact hne)
    rw [ep,eq] at this
    exact this
end
theorem far_le {p q:P3} (hp:ptOk p=true) (hq:ptOk q=true):farI p q≤1073741824:=by
  simp [ptOk,coordOk] at hp hq
  have h: ∀ x y:Int,-536870912≤x→x≤536870912→-536870912≤y→y≤536870912→far1 x y≤1073741824:=fun x y _ _ _ _=>by unfold far1;omega
  have h1:=h p.1 q.1 (by omega) (by omega) (by omega) (by omega)
  have h2:=h p.2.1 q.2.1 (by omega) (by omega) (by omega) (by omega)
  have h3:=h p.2.2 q.2.2 (by omega) (by omega) (by omega) (by omega)
  unfold farI
  exact Int.max_le.2 ⟨Int.max_le.2 ⟨h1,h2⟩,h3⟩
theorem pl_ok {p:List P3} {im:List Int} {N gone:Int} (hp: ∀ t∈p,ptOk t=true): ∀ i,i≤p.length→∀ t∈plL p im N gone i,ptOk t=true
  | 0,_,t,ht=>by
    rw [plL_0] at ht
    rw [(List.mem_replicate.1 ht).2];rfl
  | i +1,hi,t,ht=>by
    by_cases h:(i:Int)≠gone∧i<im.length∧im.getD i 0≥0∧im.getD i 0<N
    · rw [plL_y h] at ht
      rcases List.mem_or_eq_of_mem_set ht with h1 | h1
      · exact pl_ok hp i (by omega) t h1
      · rw [h1];exact hp _ (tg_mem (l:=p) (i:=i) (by omega))
    · rw [plL_n h] at ht
      exact pl_ok hp i (by omega) t ht
structure Tw (p:List P3) (s:SoT) (D1 D2:ColT) (Q Z:List P3):Prop where
  n1:0≤D1.1.1∧D1.1.1≤100000
  n2:0≤D2.1.1∧D2.1.1≤100000
  idx: ∀ i,i<D1.2.1.length→0≤D1.2.1.getD i 0∧D1.2.1.getD i 0<D2.2.1.length
  len:D1.2.1.length≤4096
  mv1:(moveR p D1.2.1 Q).2=0
  mv2:(moveR Q D2.2.1 Z).2=0
  mvt:(moveR p (twoL D1.2.1 D2.2.1) Z).2=0
  le:(moveR p (twoL D1.2.1 D2.2.1) Z).1≤(moveR p D1.2.1 Q).1+(moveR Q D2.2.1 Z).1
  ok:i64ok ((moveR p D1.2.1 Q).1+(moveR Q D2.2.1 Z).1)
  simp:simpR s D2.1 (twoL D1.2.1 D2.2.1)=true
theorem tw_do {s:SoT} {a b a2 b2:Int} {p:List P3} {r1 r2:RecT} (he:doE s a b=0) (he2:doE (s.1 - 1,drL a b s.2 s.2.length) a2 b2=0) (hp:(p.length:Int)=s.1) (hsm: ∀ t∈p,ptOk t=true) (e1:r1.1=a) (e2:r2.1=a2) :
    Tw p s ((s.1 - 1,drL a b s.2 s.2.length),imgL s.1 a b,r1,true) ((s.1 - 1 - 1,drL a2 b2 (drL a b s.2 s.2.length) (drL a b s.2 s.2.length).length),imgL (s.1 - 1) a2 b2,r2,true) (plL p (imgL s.1 a b) (s.1 - 1) a p.length) (plL (plL p (imgL s.1 a b) (s.1 - 1) a p.length) (imgL (s.1 - 1) a2 b2) (s.1 - 1 - 1) a2 (plL p (imgL s.1 a b) (s.1 - 1) a p.length).length):=by
  obtain ⟨hs,ha,hb,_,hab⟩:=doE_why he
  obtain ⟨hs2,ha2,hb2,_,hab2⟩:=doE_why he2
  have hn:0≤s.1∧s.1≤4096:=⟨hs.fit.1,hs.fit.2.1⟩
  have ha2':0≤a2∧a2<s.1 - 1:=ha2
  have hb2':0≤b2∧b2<s.1 - 1:=hb2
  have st1:=pl_stay ha hb hab hp
  have hok:=pl_ok (im:=imgL s.1 a b) (N:=s.1 - 1) (gone:=a) hsm p.length (Nat.le_refl _)
  generalize hQ:plL p (imgL s.1 a b) (s.1 - 1) a p.length=Q at *
  have st2:=pl_stay (n:=s.1 - 1) ha2' hb2' hab2 st1.len
  generalize hZ:plL Q (imgL (s.1 - 1) a2 b2) (s.1 - 1 - 1) a2 Q.length=Z at *
  have m1:=st1.moves
  have m2:=st2.moves
  have hl1:=imgL_len s.1 a b
  have hl2:=imgL_len (s.1 - 1) a2 b2
  have htl:=two_len s a b a2 b2
  have hq:=st1.len
  have hz:=st2.len
  have n1:=farI_nn (p.getD a.toNat (0,0,0)) (p.getD b.toNat (0,0,0))
  have n2:=farI_nn (Q.getD a2.toNat (0,0,0)) (Q.getD b2.toNat (0,0,0))
  have mt:moveR p (twoL (imgL s.1 a b) (imgL (s.1 - 1) a2 b2)) Z=(farFold p Z 0 (twoL (imgL s.1 a b) (imgL (s.1 - 1) a2 b2)) 0,0):=by
    have hc:dcheckR p (twoL (imgL s.1 a b) (imgL (s.1 - 1) a2 b2)) Z=0:=by
      unfold dcheckR
      rw [if_neg (by omega),hz,two_bad he he2];rfl
    unfold moveR
    rw [if_neg (by rw [hc];decide)]
  have fl:=fold_le (p:=p) (z:=Z) (im:=twoL (imgL s.1 a b) (imgL (s.1 - 1) a2 b2)) (B:=farI (p.getD a.toNat (0,0,0)) (p.getD b.toNat (0,0,0))+farI (Q.getD a2.toNat (0,0,0)) (Q.getD b2.toNat (0,0,0))) (fun v hv=>by
    have k:=two_at he he2 v (by omega)
    have j1:=st1.move v (by omega)
    rw [imgL_get (by omega)] at j1
    have j2:=st2.move (mapV v a b).toNat (by omega)
    rw [imgL_get (by omega),show (((mapV (v:Int) a b).toNat:Nat):Int)=mapV v a b by omega] at j2
    rw [k.1]
    have tri:=far_tri (p.getD v (0,0,0)) (Q.getD (mapV v a b).toNat (0,0,0)) (Z.getD (mapV (mapV v a b) a2 b2).toNat (0,0,0))
    rw [j1,j2] at tri
    split at tri<;>split at tri<;>omega) (twoL (imgL s.1 a b) (imgL (s.1 - 1) a2 b2)).length 0 0 (by omega) (by omega)
  rw [List.drop_zero] at fl
  refine ⟨by show 0≤s.1 - 1∧s.1 - 1≤100000;omega,by show 0≤s.1 - 1 - 1∧s.1 - 1 - 1≤100000;omega,fun i hi=> ?_,by show (imgL s.1 a b).length≤4096;omega,by show (moveR p (imgL s.1 a b) Q).2=0;rw [m1],by show (moveR Q (imgL (s.1 - 1) a2 b2) Z).2=0;rw [m2],by show (moveR p (twoL (imgL s.1 a b) (imgL (s.1 - 1) a2 b2)) Z).2=0;rw [mt],?_,?_,simp_two he he2⟩
  · have hi:i<(imgL s.1 a b).length:=hi
    show 0≤(imgL s.1 a b).getD i 0∧(imgL s.1 a b).getD i 0<(imgL (s.1 - 1) a2 b2).length
    have k:=(two_at he he2 i (by omega)).2.1
    rw [imgL_get (by omega)];omega
  · show (moveR p (twoL (imgL s.1 a b) (imgL (s.1 - 1) a2 b2)) Z).1≤(moveR p (imgL s.1 a b) Q).1+(moveR Q (imgL (s.1 - 1) a2 b2) Z).1
    rw [mt,m1,m2];exact fl
  · show i64ok ((moveR p (imgL s.1 a b) Q).1+(moveR Q (imgL (s.1 - 1) a2 b2) Z).1)
    rw [m1,m2]
    have w1:=far_le (hsm _ (tg_mem (l:=p) (i:=a.toNat) (by omega))) (hsm _ (tg_mem (l:=p) (i:=b.toNat) (by omega)))
    have w2:=far_le (hok _ (tg_mem (l:=Q) (i:=a2.toNat) (by omega))) (hok _ (tg_mem (l:=Q) (i:=b2.toNat) (by omega)))
    have w1:farI (p.getD a.toNat (0,0,0)) (p.getD b.toNat (0,0,0))≤1073741824:=w1
    have w2:farI (Q.getD a2.toNat (0,0,0)) (Q.getD b2.toNat (0,0,0))≤1073741824:=w2
    show i64ok (farI (p.getD a.toNat (0,0,0)) (p.getD b.toNat (0,0,0))+farI (Q.getD a2.toNat (0,0,0)) (Q.getD b2.toNat (0,0,0)))
    unfold i64ok;omega
theorem tw_ok {s:SoT} {c d:Int} {p:List P3} (hc:0≤c) (hd:0≤d) (hp:(p.length:Int)=s.1) (hsm:dsmallR p=true) (k1:(colR s c).2.2.2=true) (k2:(colR (colR s c).1 d).2.2.2=true) :
    Tw p s (colR s c) (colR (colR s c).1 d) (plL p (colR s c).2.1 (colR s c).1.1 (colR s c).2.2.1.1 p.length) (plL (plL p (colR s c).2.1 (colR s c).1.1 (colR s c).2.2.1.1 p.length) (colR (colR s c).1 d).2.1 (colR (colR s c).1 d).1.1 (colR (colR s c).1 d).2.2.1.1 (plL p (colR s c).2.1 (colR s c).1.1 (colR s c).2.2.1.1 p.length).length):=by
  have o1:colOk s c:=by
    apply Classical.byContradiction
    intro k;rw [colR_nope k] at k1;cases k1
  rw [colR_ok o1] at k2 ⊢
  have o2:colOk (s.1 - 1,drL (colE s c).1 (colE s c).2 s.2 s.2.length) d:=by
    apply Classical.byContradiction
    intro k
    have k2:(colR (s.1 - 1,drL (colE s c).1 (colE s c).2 s.2 s.2.length) d).2.2.2=true:=k2
    rw [colR_nope k] at k2;cases k2
  have e2:=colR_ok o2
  have he:=colOk_do hc o1
  have he2:=colOk_do hd o2
  have hsm': ∀ t∈p,ptOk t=true:=by
    unfold dsmallR at hsm
    rw [Bool.and_eq_true,List.all_eq_true] at hsm
    exact hsm.1
  show Tw p s _ (colR (s.1 - 1,drL (colE s c).1 (colE s c).2 s.2 s.2.length) d) _ (plL _ (colR (s.1 - 1,drL (colE s c).1 (colE s c).2 s.2 s.2.length) d).2.1 (colR (s.1 - 1,drL (colE s c).1 (colE s c).2 s.2 s.2.length) d).1.1 (colR (s.1 - 1,drL (colE s c).1 (colE s c).2 s.2 s.2.length) d).2.2.1.1 _)
  rw [e2]
  exact tw_do he he2 hp hsm' rfl rfl
end S1
open Go Go.Vm Go.Proofs
namespace S1
def collFC (F:SoT→Int→ColT):List AV→Option Res:=con2 soupE (.int .u8) (fun s c=>some (none,some (colR s c=F s c),colV (F s c)))
theorem collFRow (F:SoT→Int→ColT):FnRow Tryz.prog 20 (collFC F):=⟨con2_ok fun s c r h=>by
  cases h
  intro σ vals w hag hv
  refine ⟨trivial,fun hq=> ?_⟩
  have hq:colR s c=F s c:=hq
  rw [← hq]
  exact (collRow.1 _ _ (rfl:collC [soupE.av s,(ETy.int .u8).av c]=_) σ vals w hag hv).2 trivial,_,Tryz.func20,by kernel_rfl,by kernel_rfl⟩
def twP (im im2:List Int) (i:Nat):List Int:=(im.take i).map fun v:Int=>im2.getD v.toNat 0
theorem twP_0 (im im2:List Int):twP im im2 0=[]:=rfl
theorem twP_s {im im2:List Int} {i:Nat} (h:i<im.length):twP im im2 (i+1)=twP im im2 i++[im2.getD (im.getD i 0).toNat 0]:=by
  unfold twP
  rw [List.take_succ_eq_append_getElem h,List.map_append,List.getD_eq_getElem?_getD (l:=im),List.getElem?_eq_getElem h];rfl
theorem twP_len {im im2:List Int} {i:Nat} (h:i≤im.length):(twP im im2 i).length=i:=by unfold twP;rw [List.length_map,List.length_take];omega
theorem twP_all (im im2:List Int):twP im im2 im.length=twoL im im2:=by unfold twP twoL;rw [List.take_length]
def loopTw (im im2:List Int):Spec Nat where
  inv i:=i≤im.length
  live i:=[(79,.s (.int .i64 i)),(19,.s (.own 5 0 (twP im im2 i).length))]
  keep:=[3,4,9,10,11,13,14,15,17,18,77,78]
  heap i:=[(5,.row i64E 3 (twP im im2 i))]
  keepH:=[0,1,2,3,4]
  mu i:=im.length - i
attribute [local irreducible] plL moveR simpR dsmallR colR twP
theorem lawDT_vc (F:SoT→Int→ColT) (hF: ∀ s c,colR s c=F s c) (n:Int) (l:List P3) (c d:Int) (p:List P3) (hT:(p.length:Int)=n→dsmallR p=true→(F (n,l) c).2.2.2=true→(F (F (n,l) c).1 d).2.2.2=true→
    Tw p (n,l) (F (n,l) c) (F (F (n,l) c).1 d) (plL p (F (n,l) c).2.1 (F (n,l) c).1.1 (F (n,l) c).2.2.1.1 p.length) (plL (plL p (F (n,l) c).2.1 (F (n,l) c).1.1 (F (n,l) c).2.2.1.1 p.length) (F (F (n,l) c).1 d).2.1 (F (F (n,l) c).1 d).1.1 (F (F (n,l) c).1 d).2.2.1.1 (plL p (F (n,l) c).2.1 (F (n,l) c).1.1 (F (n,l) c).2.2.1.1 p.length).length)):afun ⟨tyL,[(18,dawakeC),(19,dsmallC),(20,collFC F),(21,plC),(22,dmoveC),(24,dsimpC)],[]⟩ Tryz.f7 [soupE.av (n,l),(ETy.int .u8).av c,(ETy.int .u8).av d,(ETy.sl .arr3).av p] (fun r=>r= .s (.bool true)):=by
  repeat' (conv=>whnf
           first | done | refine qN (by first | rfl | omega | (simp only [i64ok] at *;omega)) ?_ | apply qH | refine qG fun _=> ?_ | apply qB | apply qa | apply qo | refine qe (fun _=> ?_) (fun _=> ?_) | refine qn (fun _=> ?_) (fun _=> ?_) | refine qd (fun _=> ?_) (fun _=> ?_) | apply qt | refine qi (fun _=> ?_) (fun _=> ?_) | (refine atReg 13 rfl ?_;refine Or.inr (Exists.intro (Nat) (Exists.intro (loopTw (F (n,l) c).2.1 (F (F (n,l) c).1 d).2.1) (And.intro (Exists.intro (0) (And.intro (Hold.out ?_) (And.intro ?_ (And.intro ?_ rfl)))) (fun i hi=> ?_))))) | ((with_reducible show (∃ y,And (Spec.inv (loopTw _ _) y) _));refine Exists.intro (i+1) (And.intro (Hold.out ?_) (And.intro (And.intro ?_ (And.intro ?_ rfl)) (Hold.out ?_)))) | refine And.intro rfl ?_ | apply qE | apply qO | exact True.intro | apply qq | apply qs | refine qK (by kernel_rfl) ?_ | apply qr)
  all_goals try first | apply qz1 | apply qz2 | apply qz3 | apply qz4 | apply qz5 | apply qz6 | apply qz7 | apply qz8 | apply qz9 | apply qz0
  all_goals try simp only [take_one,take_one',set_one,take_all,qn1,rec_self,qn2,pair_eta,ETy.dflt,qn3,qn4,Int.reduceToNat,Int.reduceAdd,Int.reduceSub,Int.reduceNeg,Nat.reduceAdd,Nat.zero_add,loopTw] at *
  all_goals try exact Hold.intro (hF _ _)
  all_goals have t:=hT (by assumption) (by assumption) (by assumption) (by assumption)
  all_goals generalize hQ:plL p (F (n,l) c).2.1 (F (n,l) c).1.1 (F (n,l) c).2.2.1.1 p.length=Q at *
  all_goals generalize hZ:plL Q (F (F (n,l) c).1 d).2.1 (F (F (n,l) c).1 d).1.1 (F (F (n,l) c).1 d).2.2.1.1 Q.length=Z at *
  all_goals have tl:=t.len
  all_goals try first
    | exact Hold.intro t.n1
    | exact Hold.intro t.n2
    | exact Hold.intro (t.idx _ (by omega))
    | exact Hold.intro (Nat.zero_le _)
    | (rw [twP_0];done)
    | (rw [twP_0];rfl)
    | (rw [twP_s (by omega)];done)
    | (rw [twP_len (by omega),twP_len (by omega)];done)
    | (refine Hold.intro ?_;rw [twP_len (by omega)];omega)
    | (refine Hold.intro ?_;omega)
    | (refine Hold.intro ?_;unfold i64ok;omega)
    | exact Hold.intro t.ok
    | exact absurd t.mv1 (by assumption)
    | exact absurd t.mv2 (by assumption)
  all_goals have hi9:i=(F (n,l) c).2.1.length:=by omega
  all_goals subst hi9
  all_goals rw [twP_all] at *
  all_goals first
    | exact Hold.intro t.ok
    | exact t.simp
    | exact absurd t.mvt (by assumption)
    | exact absurd t.le (by assumption)
def lawDTC:List AV→Option Res:=con4 soupE (.int .u8) (.int .u8) (.sl .arr3) (fun _ _ _ _=>some (none,none,.s (.bool true)))
theorem lawDTRow:FnRow Tryz.prog 7 lawDTC:=⟨con4_ok fun s c d p r h=>by
  cases h
  exact fn_by (rulesF (fn:=[(18,dawakeC),(19,dsmallC),(20,collFC _),(21,plC),(22,dmoveC),(24,dsimpC)]) (fr:=[]) ⟨dawakeRow,dsmallRow,(collFRow _),plRow,dmoveRow,dsimpRow,trivial⟩ trivial) Tryz.func7 (by kernel_rfl) fun hg _=>lawDT_vc colR (fun _ _=>rfl) s.1 s.2 c d p (fun h1 h2 h3 h4=>tw_ok (InK.u8 hg.2.1).1 (InK.u8 hg.2.2.1).1 h1 h2 h3 h4),_,Tryz.func7,by kernel_rfl,by kernel_rfl⟩
end S1
