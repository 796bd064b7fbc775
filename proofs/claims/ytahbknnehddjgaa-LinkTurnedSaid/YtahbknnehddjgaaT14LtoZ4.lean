/- A part of the proofs of the laws. -/
import Derived.Test.YtahbknnehddjgaaT12toT18
import Derived.Test.YtahbknnehddjgaaZ2ptoN1
import Derived.Test.YtahbknnehddjgaaT17toW1
set_option linter.unusedSimpArgs false
set_option linter.unusedVariables false
set_option maxHeartbeats 8000000
set_option maxRecDepth 100000
open Go Go.Vm Go.Proofs
namespace S1
def greatR (s:Int×List P3):Int:=if s.2.length>40 then 1 else if s.1>60 then 1 else if s.1< -1000 then 1 else 0
theorem great_vc {fn} (n:Int) (l:List P3):afun ⟨tyL,fn,[]⟩ Try.f44 [soupE.av (n,l)] (fun r=>r= .s (.int .i64 (greatR (n,l)))):=by
  repeat' (conv=>whnf
           first | done | refine qN (by first | rfl | omega | (simp only [i64ok] at *;omega)) ?_ | apply qH | refine qG fun _=> ?_ | apply qB | apply qa | apply qo | refine qe (fun _=> ?_) (fun _=> ?_) | refine qn (fun _=> ?_) (fun _=> ?_) | refine qd (fun _=> ?_) (fun _=> ?_) | apply qt | refine qi (fun _=> ?_) (fun _=> ?_) | refine And.intro rfl ?_ | apply qE | apply qO | exact True.intro | apply qq | apply qs | refine qK (by kernel_rfl) ?_ | apply qr)
  all_goals try first | apply qz1 | apply qz2 | apply qz3 | apply qz4 | apply qz5 | apply qz6 | apply qz7 | apply qz8 | apply qz9 | apply qz0
  all_goals try simp only [take_one,take_one',set_one,take_all,qn1,rec_self,qn2,pair_eta,ETy.dflt,qn3,qn4,Int.reduceToNat,Int.reduceAdd,Int.reduceSub,Int.reduceNeg,Nat.reduceAdd,Nat.zero_add,greatR] at *
  · rw [if_pos (by omega)]
  · rw [if_neg (by omega),if_pos (by omega)]
  · rw [if_neg (by omega),if_neg (by omega),if_pos (by omega)]
  · rw [if_neg (by omega),if_neg (by omega),if_neg (by omega)]
def greatC:List AV→Option Res:=con1 soupE (fun s=>some (none,none,.s (.int .i64 (greatR s))))
theorem greatRow:FnRow Try.prog 44 greatC:=⟨con1_ok fun s r h=>by cases h;exact fn_by (rulesF (fn:=[]) (fr:=[]) trivial trivial) Try.func44 (by kernel_rfl) fun _ _=>great_vc s.1 s.2,_,Try.func44,by kernel_rfl,by kernel_rfl⟩
def laidO (s:Int×List P3):Option tabE.T:=if greatR s=1 then none else newO s
theorem laid_vc (n:Int) (l:List P3):afun ⟨tyL,[(44,greatC),(12,newC)],[]⟩ Try.f23 [soupE.av (n,l)] (fun r=>r=if greatR (n,l)=1 then nilO none else (ETy.pt tabE).av (newO (n,l))):=by
  repeat' (conv=>whnf
           first | done | refine qN (by first | rfl | omega | (simp only [i64ok] at *;omega)) ?_ | apply qH | refine qG fun _=> ?_ | apply qB | apply qa | apply qo | refine qe (fun _=> ?_) (fun _=> ?_) | refine qn (fun _=> ?_) (fun _=> ?_) | refine qd (fun _=> ?_) (fun _=> ?_) | apply qt | refine qi (fun _=> ?_) (fun _=> ?_) | refine And.intro rfl ?_ | apply qE | apply qO | exact True.intro | apply qq | apply qs | refine qK (by kernel_rfl) ?_ | apply qr)
  all_goals try first | apply qz1 | apply qz2 | apply qz3 | apply qz4 | apply qz5 | apply qz6 | apply qz7 | apply qz8 | apply qz9 | apply qz0
  all_goals try simp only [take_one,take_one',set_one,take_all,qn1,rec_self,qn2,pair_eta,ETy.dflt,qn3,qn4,Int.reduceToNat,Int.reduceAdd,Int.reduceSub,Int.reduceNeg,Nat.reduceAdd,Nat.zero_add] at *
  · rw [if_pos (by assumption)];exact HoldEq.intro rfl
  · rw [if_neg (by assumption)];exact HoldEq.intro rfl
def laidC:List AV→Option Res:=con1 soupE (fun s=>some (none,none,(ETy.pt tabE).av (laidO s)))
theorem laidRow:FnRow Try.prog 23 laidC:=⟨con1_ok fun s r h=>by
  cases h
  refine FnOk.out (fn_by (rulesF (fn:=[(44,greatC),(12,newC)]) (fr:=[]) ⟨greatRow,newRow,trivial⟩ trivial) Try.func23 (by kernel_rfl) fun _ _=>laid_vc s.1 s.2) fun σ v h=> ?_
  unfold laidO
  split at h
  · rename_i e
    rw [if_pos e];exact nilO_rep h
  · rename_i e
    rw [if_neg e];exact h,_,Try.func23,by kernel_rfl,by kernel_rfl⟩
end S1
open Go Go.Vm Go.Proofs
namespace S1
theorem laid_full {s:Int×List P3} {x:tabE.T} (h:laidO s=some x):x=newT s∧Full x∧Surf s∧greatR s=0:=by
  unfold laidO at h
  split at h
  · cases h
  · rename_i hg
    obtain ⟨h1,h2,h3⟩:=new_full h
    refine ⟨h1,h2,h3,?_⟩
    unfold greatR at hg ⊢
    split
    · rename_i h;rw [if_pos h] at hg;exact absurd rfl hg
    · rename_i h;rw [if_neg h] at hg
      split
      · rename_i h;rw [if_pos h] at hg;exact absurd rfl hg
      · rename_i h;rw [if_neg h] at hg
        split
        · rename_i h;rw [if_pos h] at hg;exact absurd rfl hg
        · rfl
def laidXC (x:tabE.T):List AV→Option Res:=con1 soupE (fun s=>some (none,some (laidO s=some x),(ETy.pt tabE).av (some x)))
theorem laidXRow (x:tabE.T):FnRow Try.prog 23 (laidXC x):=⟨con1_ok fun s r h=>by
  cases h
  intro σ vals w hag hv
  refine ⟨trivial,fun hq=> ?_⟩
  have:=(laidRow.1 _ _ (rfl:laidC [soupE.av s]=_) σ vals w hag hv).2 trivial
  rw [show laidO s=some x from hq] at this
  exact this,_,Try.func23,by kernel_rfl,by kernel_rfl⟩
def laidNC:List AV→Option Res:=con1 soupE (fun s=>some (none,some (laidO s=none),nilO none))
theorem laidNRow:FnRow Try.prog 23 laidNC:=⟨con1_ok fun s r h=>by
  cases h
  intro σ vals w hag hv
  refine ⟨trivial,fun hq=> ?_⟩
  have hv0:=hv
  have:=(laidRow.1 _ _ (rfl:laidC [soupE.av s]=_) σ vals w hag hv).2 trivial
  rw [show laidO s=none from hq] at this
  refine this.mono fun e w' ⟨v,σ',e1,e2,e3,e4,e5,e6⟩=>⟨v,σ',e1,e2,e3,e4,?_,e6⟩
  exact nil_av e5,_,Try.func23,by kernel_rfl,by kernel_rfl⟩
end S1
open Go Go.Vm Go.Proofs
namespace S1
structure TurnF (F:Int×List P3→tabE.T) (n:Int) (l:List P3) (a b:Int) (x:tabE.T):Prop where
  gx: ∀ y,some x=some y→Good y
  hl:l.length≤100000
  nm:newO (n,l.map mirT)=some (F (n,l.map mirT))
  wc:whyO (some x) b a=whyO (some x) a b
  cc:(comO (some x) b a).length=(comO (some x) a b).length
  gm: ∀ y,some (F (n,l.map mirT))=some y→Good y
  wm:whyO (some (F (n,l.map mirT))) a b=whyO (some x) a b
theorem turn_facts {n:Int} {l:List P3} (a b:Int) {x:tabE.T} (h1:x=newT (n,l)) (g:Full x) (hs:Surf (n,l)):TurnF newT n l a b x:=by
  have hs2:Surf x.1:=by rw [h1];exact hs
  obtain ⟨m1,m2,_⟩:=new_of (mir_surf hs)
  refine ⟨fun y e=>by cases e;exact g.toGood,?_,m1,?_,?_,fun y e=>by cases e;exact m2.toGood,?_⟩
  · have:l.length≤8192:=hs.fit.2.2.1
    omega
  · show whyR x b a=whyR x a b
    exact why_comm g hs2 b a
  · show (comR x b a).length=(comR x a b).length
    exact com_len_comm g b a
  · show whyR (newT (n,l.map mirT)) a b=whyR x a b
    rw [h1];exact mir_why hs a b
structure TurnN (F:Int×List P3→tabE.T) (n:Int) (l:List P3) (a b:Int) (to:List Int) (x:tabE.T):Prop where
  nm:newO (n,l.map (mapT (nameF to)))=some (F (n,l.map (mapT (nameF to))))
  gm: ∀ y,some (F (n,l.map (mapT (nameF to))))=some y→Good y
  wn:InN n a→InN n b→whyO (some (F (n,l.map (mapT (nameF to))))) (to.getD a.toNat 0) (to.getD b.toNat 0)=whyO (some x) a b
  cn:InN n a→InN n b→(comO (some (F (n,l.map (mapT (nameF to))))) (to.getD a.toNat 0) (to.getD b.toNat 0)).length=(comO (some x) a b).length
theorem turn_names {n:Int} {l:List P3} (a b:Int) {to:List Int} {x:tabE.T} (h1:x=newT (n,l)) (hs:Surf (n,l)) (hp:Perm n to):TurnN newT n l a b to x:=by
  obtain ⟨m1,m2,_⟩:=new_of (name_surf hs hp)
  refine ⟨m1,fun y e=>by cases e;exact m2.toGood,fun ha hb=> ?_,fun ha hb=> ?_⟩
  · show whyR (newT (n,l.map (mapT (nameF to)))) (nameF to a) (nameF to b)=whyR x a b
    rw [h1];exact (name_iso hs hp).why hs (name_surf hs hp) ha hb
  · show (comR (newT (n,l.map (mapT (nameF to)))) (nameF to a) (nameF to b)).length=(comR x a b).length
    rw [h1];exact (name_iso hs hp).comN hs (name_surf hs hp) ha hb
attribute [local irreducible] comO whyO comR whyR mirT nameF mapT
theorem lawLU_vc (F:Int×List P3→tabE.T) (n:Int) (l:List P3) (a b:Int) (to:List Int) (x:tabE.T) (hx:laidO (n,l)=some x) (hs:Surf (n,l)) (hf:TurnF F n l a b x) (hn:TurnN F n l a b to x) (hp:Perm n to):afun ⟨tyL,[(22,awake34C),(23,laidXC x),(24,comC),(17,whyC),(25,mirSC),(12,newFC F),(26,renYC)],[]⟩ Try.f7 [soupE.av (n,l),i64E.av a,i64E.av b,(ETy.sl i64E).av to] (fun r=>r= .s (.bool true)):=by
  have hpl:(to.length:Int)=n:=hp.1
  repeat' (conv=>whnf
           first | done | refine qN (by first | rfl | omega | (simp only [i64ok] at *;omega)) ?_ | apply qH | refine qG fun _=> ?_ | apply qB | apply qa | apply qo | refine qe (fun _=> ?_) (fun _=> ?_) | refine qn (fun _=> ?_) (fun _=> ?_) | refine qd (fun _=> ?_) (fun _=> ?_) | apply qt | refine qi (fun _=> ?_) (fun _=> ?_) | refine And.intro rfl ?_ | apply qE | apply qO | exact True.intro | apply qq | apply qs | refine qK (by kernel_rfl) ?_ | apply qr)
  all_goals try first | apply qz1 | apply qz2 | apply qz3 | apply qz4 | apply qz5 | apply qz6 | apply qz7 | apply qz8 | apply qz9 | apply qz0
  all_goals try simp only [take_one,take_one',set_one,take_all,qn1,rec_self,qn2,pair_eta,ETy.dflt,qn3,qn4,Int.reduceToNat,Int.reduceAdd,Int.reduceSub,Int.reduceNeg,Nat.reduceAdd,Nat.zero_add] at *
  all_goals first
    | exact qh hx
    | exact qh hf.gx
    | exact qh hf.hl
    | exact qh hf.nm
    | exact qh hf.gm
    | exact qh hn.nm
    | exact qh hn.gm
    | exact qh ⟨hs,hp⟩
    | exact absurd hf.wc (by assumption)
    | exact absurd hf.wm (by assumption)
    | (refine absurd ?_ (show ((comO (some x) b a).length:Int)≠(comO (some x) a b).length by assumption);rw [hf.cc])
    | exact absurd (hn.wn ⟨by omega,by omega⟩ ⟨by omega,by omega⟩) (by assumption)
    | (rw [hn.cn ⟨by omega,by omega⟩ ⟨by omega,by omega⟩];exact beq_self_eq_true _)
    | (refine qh ?_;omega)
theorem lawLUN_vc (F:Int×List P3→tabE.T) (n:Int) (l:List P3) (a b:Int) (to:List Int) (x:tabE.T) (hx:laidO (n,l)=some x) (hs:Surf (n,l)) (hf:TurnF F n l a b x) (hp: ¬ Perm n to):afun ⟨tyL,[(22,awake34C),(23,laidXC x),(24,comC),(17,whyC),(25,mirSC),(12,newFC F),(26,renNC)],[]⟩ Try.f7 [soupE.av (n,l),i64E.av a,i64E.av b,(ETy.sl i64E).av to] (fun r=>r= .s (.bool true)):=by
  repeat' (conv=>whnf
           first | done | refine qN (by first | rfl | omega | (simp only [i64ok] at *;omega)) ?_ | apply qH | refine qG fun _=> ?_ | apply qB | apply qa | apply qo | refine qe (fun _=> ?_) (fun _=> ?_) | refine qn (fun _=> ?_) (fun _=> ?_) | refine qd (fun _=> ?_) (fun _=> ?_) | apply qt | refine qi (fun _=> ?_) (fun _=> ?_) | refine And.intro rfl ?_ | apply qE | apply qO | exact True.intro | apply qq | apply qs | refine qK (by kernel_rfl) ?_ | apply qr)
  all_goals try first | apply qz1 | apply qz2 | apply qz3 | apply qz4 | apply qz5 | apply qz6 | apply qz7 | apply qz8 | apply qz9 | apply qz0
  all_goals try simp only [take_one,take_one',set_one,take_all,qn1,rec_self,qn2,pair_eta,ETy.dflt,qn3,qn4,Int.reduceToNat,Int.reduceAdd,Int.reduceSub,Int.reduceNeg,Nat.reduceAdd,Nat.zero_add] at *
  all_goals first
    | exact qh hx
    | exact qh hf.gx
    | exact qh hf.hl
    | exact qh hf.nm
    | exact qh hf.gm
    | exact qh ⟨hs,hp⟩
    | exact absurd hf.wc (by assumption)
    | exact absurd hf.wm (by assumption)
    | (refine absurd ?_ (show ((comO (some x) b a).length:Int)≠(comO (some x) a b).length by assumption);rw [hf.cc])
theorem lawLU0_vc (n:Int) (l:List P3) (a b:Int) (to:List Int) (hx:laidO (n,l)=none):afun ⟨tyL,[(22,awake34C),(23,laidNC),(24,comC),(17,whyC),(25,mirSC),(26,renNC)],[]⟩ Try.f7 [soupE.av (n,l),i64E.av a,i64E.av b,(ETy.sl i64E).av to] (fun r=>r= .s (.bool true)):=by
  repeat' (conv=>whnf
           first | done | refine qN (by first | rfl | omega | (simp only [i64ok] at *;omega)) ?_ | apply qH | refine qG fun _=> ?_ | apply qB | apply qa | apply qo | refine qe (fun _=> ?_) (fun _=> ?_) | refine qn (fun _=> ?_) (fun _=> ?_) | refine qd (fun _=> ?_) (fun _=> ?_) | apply qt | refine qi (fun _=> ?_) (fun _=> ?_) | refine And.intro rfl ?_ | apply qE | apply qO | exact True.intro | apply qq | apply qs | refine qK (by kernel_rfl) ?_ | apply qr)
  all_goals try first | apply qz1 | apply qz2 | apply qz3 | apply qz4 | apply qz5 | apply qz6 | apply qz7 | apply qz8 | apply qz9 | apply qz0
  all_goals try simp only [take_one,take_one',set_one,take_all,qn1,rec_self,qn2,pair_eta,ETy.dflt,qn3,qn4,Int.reduceToNat,Int.reduceAdd,Int.reduceSub,Int.reduceNeg,Nat.reduceAdd,Nat.zero_add] at *
  all_goals exact qh hx
def lawLUC:List AV→Option Res:=con4 soupE i64E i64E (.sl i64E) (fun _ _ _ _=>some (none,none,.s (.bool true)))
theorem lawLURow:FnRow Try.prog 7 lawLUC:=⟨con4_ok fun s a b to r h=>by
  cases h
  cases hx:laidO s with
  | none=>exact fn_by (rulesF (fn:=[(22,awake34C),(23,laidNC),(24,comC),(17,whyC),(25,mirSC),(26,renNC)]) (fr:=[]) ⟨awake34Row,laidNRow,comRow,whyRow,mirSRow,renNRow,trivial⟩ trivial) Try.func7 (by kernel_rfl) fun _ _=>lawLU0_vc s.1 s.2 a b to hx
  | some x =>
    obtain ⟨h1,g,hs,_⟩:=laid_full hx
    by_cases hp:Perm s.1 to
    · exact fn_by (rulesF (fn:=[(22,awake34C),(23,laidXC x),(24,comC),(17,whyC),(25,mirSC),(12,newFC newT),(26,renYC)]) (fr:=[]) ⟨awake34Row,(laidXRow x),comRow,whyRow,mirSRow,(newFRow newT),renYRow,trivial⟩ trivial) Try.func7 (by kernel_rfl) fun _ _=>lawLU_vc newT s.1 s.2 a b to x hx hs (turn_facts a b h1 g hs) (turn_names a b h1 hs hp) hp
    · exact fn_by (rulesF (fn:=[(22,awake34C),(23,laidXC x),(24,comC),(17,whyC),(25,mirSC),(12,newFC newT),(26,renNC)]) (fr:=[]) ⟨awake34Row,(laidXRow x),comRow,whyRow,mirSRow,(newFRow newT),renNRow,trivial⟩ trivial) Try.func7 (by kernel_rfl) fun _ _=>lawLUN_vc newT s.1 s.2 a b to x hx hs (turn_facts a b h1 g hs) hp,_,Try.func7,by kernel_rfl,by kernel_rfl⟩
end S1
