/- A part of the proofs of the laws. -/
import Derived.Test.YtahbknnehddjgaaGreatV3toY2
import Derived.Test.YtahbknnehddjgaaGreatY6toF8
set_option linter.unusedSimpArgs false
set_option linter.unusedVariables false
set_option maxHeartbeats 8000000
set_option maxRecDepth 100000
open Go Go.Vm Go.Proofs
namespace S1
def triOk (n:Int) (t:P3):Prop:=(0≤t.1∧t.1<n)∧(0≤t.2.1∧t.2.1<n)∧(0≤t.2.2∧t.2.2<n)∧¬ dgn t
def loopI1 (n:Int) (l:List P3):Spec Nat where
  inv i:=i≤l.length∧∀ j,j<i→triOk n (l.getD j (0,0,0))
  live i:=[(3,.s (.int .i64 i))]
  keep:=[1,2]
  heap _:=[]
  keepH:=[0]
  mu i:=l.length - i
def loopI2 (l:List P3):Spec Nat where
  inv i:=i≤l.length∧∀ j k,k<j→j<i→PairOk (l.getD j (0,0,0)) (l.getD k (0,0,0))
  live i:=[(6,.s (.int .i64 i))]
  keep:=[1,2]
  heap _:=[]
  keepH:=[0]
  mu i:=l.length - i
def loopI3 (l:List P3) (i:Nat):Spec Nat where
  inv k:=k≤i∧∀ j,j<k→PairOk (l.getD i (0,0,0)) (l.getD j (0,0,0))
  live k:=[(7,.s (.int .i64 k))]
  keep:=[1,2,6]
  heap _:=[]
  keepH:=[0]
  mu k:=i - k
def loopI4 (l:List P3) (i k:Nat):Spec Nat where
  inv p:=p≤3∧∀ a b,a<p→b<3→¬ shE (l.getD i (0,0,0)) (l.getD k (0,0,0)) a b
  live p:=[(9,.s (.int .i64 p)),(8,.s (.int .i64 (besN (l.getD i (0,0,0)) (l.getD k (0,0,0)) p)))]
  keep:=[1,2,6,7]
  heap _:=[]
  keepH:=[0]
  mu p:=3 - p
def loopI5 (l:List P3) (i k p:Nat):Spec Nat where
  inv q:=q≤3∧∀ b,b<q→¬ shE (l.getD i (0,0,0)) (l.getD k (0,0,0)) p b
  live q:=[(10,.s (.int .i64 q))]
  keep:=[1,2,6,7,8,9]
  heap _:=[]
  keepH:=[0]
  mu q:=3 - q
def loopI6 (n:Int) (l:List P3):Spec Nat where
  inv v:=(v:Int)≤max n 0∧∀ u:Nat,u<v→(fan15 l u).1≠0∧(fan15 l u).1=(fan15 l u).2
  live v:=[(11,.s (.int .i64 v))]
  keep:=[1,2]
  heap _:=[]
  keepH:=[0]
  mu v:=n.toNat - v
theorem is_surfB (s:SoT):isR s=true↔Surf s:=by
  unfold isR
  rw [decide_eq_true_eq]
  exact ⟨fun h=>(surf_iff s).1 (by rw [h]),fun h=>chk_eq ((surf_iff s).2 h)⟩
theorem isR_no {s:SoT} (h:Surf s→False):false=isR s:=by
  cases e:isR s with
  | false=>rfl
  | true=>exact (h ((is_surfB s).1 e)).elim
theorem isR_yes {s:SoT} (h:Surf s):true=isR s:=((is_surfB s).2 h).symm
theorem tm13:(Int.tmod 1 3).toNat=1:=rfl
theorem tm23:(Int.tmod 2 3).toNat=2:=rfl
theorem tm33:(Int.tmod 3 3).toNat=0:=rfl
theorem c30 (t:P3):cmp3 t 0=t.1:=rfl
theorem c31 (t:P3):cmp3 t 1=t.2.1:=rfl
theorem c32 (t:P3):cmp3 t 2=t.2.2:=rfl
theorem tri_of {n:Int} {l:List P3} (h:Surf (n,l)) {i:Nat} (hi:i<l.length):triOk n (l.getD i (0,0,0)):=by
  obtain ⟨a,b,c⟩:=triIn_spec (h.fit.2.2.2 i hi)
  exact ⟨a,b,c,h.deg i hi⟩
theorem tm_r (q:Nat):0≤((q:Int)+1).tmod 3∧((q:Int)+1).tmod 3<3:=by
  have e:((q:Int)+1).tmod 3=((q:Int)+1) % 3:=Int.tmod_eq_emod_of_nonneg (by omega)
  rw [e];omega
attribute [local irreducible] besN fan15 isR
theorem is15_vc (n:Int) (l:List P3):afun ⟨tyL,[(37,has15C),(63,fan15C)],[]⟩ Tryz.f35 [soupE.av (n,l)] (fun r=>r= .s (.bool (isR (n,l)))):=by
  repeat' (conv=>whnf
           first | done | refine qN (by first | rfl | omega | (simp only [i64ok] at *;omega)) ?_ | apply qH | refine qG fun _=> ?_ | apply qB | apply qa | apply qo | refine qe (fun _=> ?_) (fun _=> ?_) | refine qn (fun _=> ?_) (fun _=> ?_) | refine qd (fun _=> ?_) (fun _=> ?_) | apply qt | refine qi (fun _=> ?_) (fun _=> ?_) | (refine atReg 4 rfl ?_;refine Or.inr (Exists.intro (Nat) (Exists.intro (loopI1 n l) (And.intro (Exists.intro (0) (And.intro (Hold.out ?_) (And.intro ?_ (And.intro ?_ rfl)))) (fun i hi=> ?_))))) | ((with_reducible show (∃ y,And (Spec.inv (loopI1 _ _) y) _));refine Exists.intro (i+1) (And.intro (Hold.out ?_) (And.intro (And.intro ?_ (And.intro ?_ rfl)) (Hold.out ?_)))) | (refine atReg 8 rfl ?_;refine Or.inl (Exists.intro (4) ?_)) | (refine atReg 13 rfl ?_;refine Or.inr (Exists.intro (Nat) (Exists.intro (loopI2 l) (And.intro (Exists.intro (0) (And.intro (Hold.out ?_) (And.intro ?_ (And.intro ?_ rfl)))) (fun j hj=> ?_))))) | ((with_reducible show (∃ y,And (Spec.inv (loopI2 _) y) _));refine Exists.intro (j+1) (And.intro (Hold.out ?_) (And.intro (And.intro ?_ (And.intro ?_ rfl)) (Hold.out ?_)))) | (refine atReg 16 rfl ?_;refine Or.inr (Exists.intro (Nat) (Exists.intro (loopI3 l j) (And.intro (Exists.intro (0) (And.intro (Hold.out ?_) (And.intro ?_ (And.intro ?_ rfl)))) (fun k hk=> ?_))))) | ((with_reducible show (∃ y,And (Spec.inv (loopI3 _ _) y) _));refine Exists.intro (k+1) (And.intro (Hold.out ?_) (And.intro (And.intro ?_ (And.intro ?_ rfl)) (Hold.out ?_)))) | (refine atReg 20 rfl ?_;refine Or.inr (Exists.intro (Nat) (Exists.intro (loopI4 l j k) (And.intro (Exists.intro (0) (And.intro (Hold.out ?_) (And.intro ?_ (And.intro ?_ rfl)))) (fun p hp=> ?_))))) | ((with_reducible show (∃ y,And (Spec.inv (loopI4 _ _ _) y) _));refine Exists.intro (p+1) (And.intro (Hold.out ?_) (And.intro (And.intro ?_ (And.intro ?_ rfl)) (Hold.out ?_)))) | (refine atReg 25 rfl ?_;refine Or.inr (Exists.intro (Nat) (Exists.intro (loopI5 l j k p) (And.intro (Exists.intro (0) (And.intro (Hold.out ?_) (And.intro ?_ (And.intro ?_ rfl)))) (fun q hq=> ?_))))) | ((with_reducible show (∃ y,And (Spec.inv (loopI5 _ _ _ _) y) _));refine Exists.intro (q+1) (And.intro (Hold.out ?_) (And.intro (And.intro ?_ (And.intro ?_ rfl)) (Hold.out ?_)))) | (refine atReg 32 rfl ?_;refine Or.inr (Exists.intro (Nat) (Exists.intro (loopI6 n l) (And.intro (Exists.intro (0) (And.intro (Hold.out ?_) (And.intro ?_ (And.intro ?_ rfl)))) (fun v hv=> ?_))))) | ((with_reducible show (∃ y,And (Spec.inv (loopI6 _ _) y) _));refine Exists.intro (v+1) (And.intro (Hold.out ?_) (And.intro (And.intro ?_ (And.intro ?_ rfl)) (Hold.out ?_)))) | refine And.intro rfl ?_ | apply qE | apply qO | exact True.intro | apply qq | apply qs | refine qK (by kernel_rfl) ?_ | apply qr)
  all_goals try first | apply qz1 | apply qz2 | apply qz3 | apply qz4 | apply qz5 | apply qz6 | apply qz7 | apply qz8 | apply qz9 | apply qz0
  all_goals try simp only [take_one,take_one',set_one,take_all,qn1,rec_self,qn2,pair_eta,ETy.dflt,qn3,qn4,Int.reduceToNat,Int.reduceAdd,Int.reduceSub,Int.reduceNeg,Nat.reduceAdd,Nat.zero_add,loopI1,loopI2,loopI3,loopI4,loopI5,loopI6,cmp3_is,tmX,tm13,tm23,tm33,c30,c31,c32] at *
  all_goals try
    (refine isR_no fun h=> ?_
     have h1:0≤n:=h.fit.1
     have h2:n≤4096:=h.fit.2.1
     have h3:l.length≤8192:=h.fit.2.2.1
     omega)
  all_goals try exact qh ⟨by decide,by decide⟩
  all_goals try exact qh (tm_r _)
  all_goals try (refine Hold.intro (And.intro (Nat.zero_le _) ?_);intros;omega)
  all_goals try (refine qh ?_;omega)
  all_goals have hi1:=hi.1
  all_goals try
    have hil:(i:Int)<l.length:=by assumption
    refine isR_no fun h=> ?_
    have ht:=tri_of h (i:=i) (by omega)
    unfold triOk dgn at ht
    omega
  all_goals try
    have hil:(i:Int)<l.length:=by assumption
    refine Hold.intro (And.intro ?_ ?_)
    · omega
    · intro a ha
      by_cases e:a=i
      · subst e;unfold triOk dgn;omega
      · exact hi.2 a (by omega)
  all_goals try exact besN_0 _ _
  all_goals try
    (have hN:=besN_le (l.getD j (0,0,0)) (l.getD k (0,0,0)) p
     refine qh ?_;unfold i64ok;omega)
  all_goals try
    (have a1:cmp3 (l.getD j (0,0,0)) p=cmp3 (l.getD k (0,0,0)) q:=by assumption
     have a2:cmp3 (l.getD j (0,0,0)) ((p+1) % 3)=cmp3 (l.getD k (0,0,0)) ((q+1) % 3):=by assumption
     exact isR_no fun h=>(surf_pair h (i:=j) (k:=k) (by omega) (show j<l.length by omega)).1 p q (by omega) (by omega) ⟨a1,a2⟩)
  all_goals try
    (have hq2:=hq.2
     have a1: ¬ shE (l.getD j (0,0,0)) (l.getD k (0,0,0)) p q:=by
       rintro ⟨b1,b2⟩
       first | exact absurd b1 (by assumption) | exact absurd b2 (by assumption)
     refine Hold.intro (And.intro ?_ ?_)
     · omega
     · intro b hb
       by_cases e:b=q
       · subst e;exact a1
       · exact hq2 b (by omega))
  all_goals try
    (have hq2:=hq.2
     have hp2:=hp.2
     have e3:q=3:=by omega
     refine Hold.intro (And.intro ?_ ?_)
     · omega
     · intro a b ha hb
       by_cases e:a=p
       · subst e;exact hq2 b (by omega)
       · exact hp2 a b (by omega) hb)
  all_goals try (rw [besN_s,if_pos (hasB_iff.1 (by assumption))];done)
  all_goals try (rw [besN_s,if_neg (hasB_no.1 (by assumption))];done)
  all_goals try
    (have a1:besN (l.getD j (0,0,0)) (l.getD k (0,0,0)) p=3:=by assumption
     have e3:p=3:=by omega
     rw [e3] at a1
     exact isR_no fun h=>(surf_pair h (i:=j) (k:=k) (by omega) (show j<l.length by omega)).2 a1)
  all_goals try
    (have a1:besN (l.getD j (0,0,0)) (l.getD k (0,0,0)) p≠3:=by assumption
     have e3:p=3:=by omega
     have hk2:=hk.2
     have hp2:=hp.2
     rw [e3] at a1 hp2
     refine Hold.intro (And.intro ?_ ?_)
     · omega
     · intro a ha
       by_cases e:a=k
       · subst e;exact ⟨fun x y hx hy=>hp2 x y hx hy,a1⟩
       · exact hk2 a (by omega))
  all_goals try
    (have hk2:=hk.2
     have hj2:=hj.2
     have e3:k=j:=by omega
     refine Hold.intro (And.intro ?_ ?_)
     · omega
     · intro a b hb ha
       by_cases e:a=j
       · subst e;exact hk2 b (by omega)
       · exact hj2 a b hb (by omega))
  all_goals try (refine Hold.intro (And.intro ?_ ?_)<;>first | omega | (intros;omega))
  all_goals try
    (have hv1:(v:Int)<n:=by assumption
     refine isR_no fun h=> ?_
     have hf:=surf_fan h (v:=v) hv1
     first
     | exact hf.1 (by assumption)
     | exact absurd hf.2 (by assumption))
  all_goals try
    (have hv1:(v:Int)<n:=by assumption
     have hv2:=hv.2
     have b1:(fan15 l v).1≠0:=by assumption
     have b2:(fan15 l v).1=(fan15 l v).2:=by assumption
     refine Hold.intro (And.intro ?_ ?_)
     · omega
     · intro u hu
       by_cases e:u=v
       · subst e;exact ⟨b1,b2⟩
       · exact hv2 u (by omega))
  all_goals
    have e1:i=l.length:=by omega
    have e2:j=l.length:=by omega
    have hi2:=hi.2
    have hj2:=hj.2
    have hv2:=hv.2
    have hv1:=hv.1
    rw [e1] at hi2
    rw [e2] at hj2
    refine isR_yes (surf_of15 (s:=(n,l)) (And.intro ?_ (And.intro ?_ (And.intro ?_ ?_))) ?_ ?_ ?_)
    · show 0≤n;omega
    · show n≤4096;omega
    · show l.length≤8192;omega
    · intro a ha
      have k:=hi2 a ha
      unfold triOk at k
      exact tri_good (by show ¬ ((l.getD a (0,0,0)).1<0∨(l.getD a (0,0,0)).1≥n∨(l.getD a (0,0,0)).2.1<0∨(l.getD a (0,0,0)).2.1≥n∨(l.getD a (0,0,0)).2.2<0∨(l.getD a (0,0,0)).2.2≥n);omega)
    · intro a ha
      exact (hi2 a ha).2.2.2
    · intro a b hb ha
      exact hj2 a b hb ha
    · intro u hu
      have hu:(u:Int)<n:=hu
      exact hv2 u (by omega)
def is15C:List AV→Option Res:=con1 soupE (fun s=>some (none,none,.s (.bool (isR s))))
theorem is15Row:FnRow Tryz.prog 35 is15C:=⟨con1_ok fun s r h=>by cases h;exact fn_by (rulesF (fn:=[(37,has15C),(63,fan15C)]) (fr:=[]) ⟨has15Row,fan15Row,trivial⟩ trivial) Tryz.func35 (by kernel_rfl) fun _ _=>is15_vc s.1 s.2,_,Tryz.func35,by kernel_rfl,by kernel_rfl⟩
end S1
open Go Go.Vm Go.Proofs
namespace S1
theorem rmap_vc {fn} (v:Int) (r:RecT) (h:(-1000000≤v∧v≤1000000)∧(-1000000≤r.2.1∧r.2.1≤1000000)):afun ⟨tyL,fn,[]⟩ Tryz.f38 [i64E.av v,recE.av r] (fun x=>x= .s (.int .i64 (mapV v r.1 r.2.1))):=by
  repeat' (conv=>whnf
           first | done | refine qN (by first | rfl | omega | (simp only [i64ok] at *;omega)) ?_ | apply qH | refine qG fun _=> ?_ | apply qB | apply qa | apply qo | refine qe (fun _=> ?_) (fun _=> ?_) | refine qn (fun _=> ?_) (fun _=> ?_) | refine qd (fun _=> ?_) (fun _=> ?_) | apply qt | refine qi (fun _=> ?_) (fun _=> ?_) | refine And.intro rfl ?_ | apply qE | apply qO | exact True.intro | apply qq | apply qs | refine qK (by kernel_rfl) ?_ | apply qr)
  all_goals try first | apply qz1 | apply qz2 | apply qz3 | apply qz4 | apply qz5 | apply qz6 | apply qz7 | apply qz8 | apply qz9 | apply qz0
  all_goals try simp only [take_one,take_one',set_one,take_all,qn1,rec_self,qn2,pair_eta,ETy.dflt,qn3,qn4,Int.reduceToNat,Int.reduceAdd,Int.reduceSub,Int.reduceNeg,Nat.reduceAdd,Nat.zero_add,mapV] at *
  all_goals try (refine qh ?_;unfold i64ok;omega)
  all_goals
    (repeat' split)<;>first | rfl | (exfalso;omega) | omega
def rmapC:List AV→Option Res:=con2 i64E recE (fun (v:Int) (r:RecT)=>some (none,some ((-1000000≤v∧v≤1000000)∧(-1000000≤r.2.1∧r.2.1≤1000000)),.s (.int .i64 (mapV v r.1 r.2.1))))
theorem rmapRow:FnRow Tryz.prog 38 rmapC:=⟨con2_ok fun v r r h=>by cases h;exact fn_by (rulesF (fn:=[]) (fr:=[]) trivial trivial) Tryz.func38 (by kernel_rfl) fun _ h=>rmap_vc v r h,_,Tryz.func38,by kernel_rfl,by kernel_rfl⟩
def rmapXC (p:Int×Int×(Int→Int)):List AV→Option Res:=con2 i64E recE (fun (v:Int) (r:RecT)=>some (none,some ((-1000000≤v∧v≤1000000)∧(-1000000≤p.2.1∧p.2.1≤1000000)∧r.1=p.1∧r.2.1=p.2.1∧p.2.2 v=mapV v p.1 p.2.1),.s (.int .i64 (p.2.2 v))))
theorem rmapXRow (p:Int×Int×(Int→Int)):FnRow Tryz.prog 38 (rmapXC p):=⟨con2_ok fun v s r h=>by
  cases h
  intro σ vals w hag hv
  refine ⟨trivial,fun hq=> ?_⟩
  have hq:(-1000000≤v∧v≤1000000)∧(-1000000≤p.2.1∧p.2.1≤1000000)∧s.1=p.1∧s.2.1=p.2.1∧p.2.2 v=mapV v p.1 p.2.1:=hq
  have:=(rmapRow.1 _ _ (rfl:rmapC [i64E.av v,recE.av s]=_) σ vals w hag hv).2 (show (-1000000≤v∧v≤1000000)∧(-1000000≤s.2.1∧s.2.1≤1000000) from ⟨hq.1,by rw [hq.2.2.2.1];exact hq.2.1⟩)
  rw [hq.2.2.1,hq.2.2.2.1,← hq.2.2.2.2] at this
  exact this,_,Tryz.func38,by kernel_rfl,by kernel_rfl⟩
def loopRD (n a b:Int) (l:List P3):Spec Nat where
  inv i:=i≤l.length
  live i:=[(12,.s (.int .i64 i))]
  keep:=[1,2,3,6,7,10,11]
  heap i:=[(4,.flat 33 [.int .i64 a,.int .i64 b,.own 6 0 (atL a b l i).length,.own 7 0 (rtL a b l i).length,.own 8 0 (fanL a b l i).length]),(5,.flat 24 [.int .i64 (n - 1),.own 9 0 (drL a b l i).length]),
    (6,.row i64E 3 (atL a b l i)),(7,.row .arr3 61 (rtL a b l i)),(8,.row i64E 3 (fanL a b l i)),(9,.row .arr3 61 (drL a b l i))]
  keepH:=[0,1,2,3]
  mu i:=l.length - i
  nils:=[4,4,4,5]
def mkN (m:Int→Int) (t:P3) (k:Nat):P3:=(if 0<k then m t.1 else t.1,if 1<k then m t.2.1 else t.2.1,if 2<k then m t.2.2 else t.2.2)
def fanP (a:Int) (t:P3) (i k:Nat):List Int:=if (t.1=a∧0<k)∨(t.2.1=a∧1<k)∨(t.2.2=a∧2<k) then [3*(i:Int)+pos3 a t] else []
def loopRD2 (a b:Int) (l:List P3) (m:Int→Int) (i:Nat) (t:P3):Spec Nat where
  inv k:=k≤3
  live k:=[(14,.s (.int .i64 k))]
  keep:=[1,2,3,6,7,10,11,12,13]
  heap k:=[(4,.flat 33 [.int .i64 a,.int .i64 b,.own 6 0 (atL a b l i).length,.own 7 0 (rtL a b l i).length,.own 8 0 (fanL a b l i++fanP a t i k).length]),(8,.row i64E 3 (fanL a b l i++fanP a t i k)),
    (10,.flat 61 [.int .i64 (mkN m t k).1,.int .i64 (mkN m t k).2.1,.int .i64 (mkN m t k).2.2])]
  keepH:=[0,1,2,3,5,6,7,9]
  mu k:=3 - k
theorem reas_1:reasI 1=8:=rfl
theorem reas_2:reasI 2=13:=rfl
theorem reas_3:reasI 3=14:=rfl
theorem reas_4:reasI 4=14:=rfl
theorem reas_0:reasI 0=0:=rfl
theorem mkN_0 (m:Int→Int) (t:P3):mkN m t 0=t:=rfl
theorem mkN_3 (m:Int→Int) (t:P3):mkN m t 3=(m t.1,m t.2.1,m t.2.2):=rfl
theorem k_three {k:Nat} (h:(k:Int)<3):k=0∨k=1∨k=2:=by omega
theorem mkN_get {m:Int→Int} {t:P3} {k:Nat} (h:(k:Int)<3):[(mkN m t k).1,(mkN m t k).2.1,(mkN m t k).2.2].getD k 0=cmp3 t k:=by
  rcases k_three h with e | e | e<;>subst e<;>rfl
theorem mkN_s1 {m:Int→Int} {t:P3} {k:Nat} (h:(k:Int)<3):(mkN m t (k+1)).1=if k=0 then m (cmp3 t k) else (mkN m t k).1:=by
  rcases k_three h with e | e | e<;>subst e<;>rfl
theorem mkN_s2 {m:Int→Int} {t:P3} {k:Nat} (h:(k:Int)<3):(mkN m t (k+1)).2.1=if k=1 then m (cmp3 t k) else (mkN m t k).2.1:=by
  rcases k_three h with e | e | e<;>subst e<;>rfl
theorem mkN_s3 {m:Int→Int} {t:P3} {k:Nat} (h:(k:Int)<3):(mkN m t (k+1)).2.2=if k=2 then m (cmp3 t k) else (mkN m t k).2.2:=by
  rcases k_three h with e | e | e<;>subst e<;>rfl
theorem fanP_0 (a:Int) (t:P3) (i:Nat):fanP a t i 0=[]:=by unfold fanP;rw [if_neg (by omega)]
theorem fanP_len (a:Int) (t:P3) (i k:Nat):(fanP a t i k).length≤1:=by unfold fanP;split<;>simp
theorem fanP_3 (a:Int) (t:P3) (i:Nat):fanP a t i 3=if hasV t a then [3*(i:Int)+pos3 a t] else []:=by
  by_cases h:hasV t a
  · rw [if_pos h];exact if_pos (by unfold hasV at h;omega)
  · rw [if_neg h];exact if_neg (by unfold hasV at h;omega)
theorem fanP_yes {a:Int} {t:P3} {i k:Nat} (hd: ¬ dgn t) (h:(k:Int)<3) (e:cmp3 t k=a):fanP a t i (k+1)=fanP a t i k++[3*(i:Int)+k]:=by
  unfold dgn at hd
  have e1:fanP a t i (k+1)=[3*(i:Int)+pos3 a t]:=if_pos (by
    rcases k_three h with k0 | k0 | k0<;>subst k0<;>simp only [cmp3,List.getD_cons_zero,List.getD_cons_succ] at e<;>omega)
  have e2:fanP a t i k=[]:=if_neg (by
    rcases k_three h with k0 | k0 | k0<;>subst k0<;>simp only [cmp3,List.getD_cons_zero,List.getD_cons_succ] at e<;>omega)
  have e3:pos3 a t=k:=by
    unfold pos3
    rcases k_three h with k0 | k0 | k0<;>subst k0<;>simp only [cmp3,List.getD_cons_zero,List.getD_cons_succ] at e
    · rw [if_pos e];rfl
    · rw [if_neg (by omega),if_pos e];rfl
    · rw [if_neg (by omega),if_neg (by omega)];rfl
  rw [e1,e2,e3];rfl
theorem fanP_no {a:Int} {t:P3} {i k:Nat} (h:(k:Int)<3) (e:cmp3 t k≠a):fanP a t i (k+1)=fanP a t i k:=by
  unfold fanP
  have:((t.1=a∧0<k+1)∨(t.2.1=a∧1<k+1)∨(t.2.2=a∧2<k+1))↔((t.1=a∧0<k)∨(t.2.1=a∧1<k)∨(t.2.2=a∧2<k)):=by
    rcases k_three h with k0 | k0 | k0<;>subst k0<;>simp only [cmp3,List.getD_cons_zero,List.getD_cons_succ] at e<;>omega
  simp only [this]
attribute [local irreducible] doW whyR reasI atL rtL fanL drL mapV isR mkN fanP
theorem rdo_vc (n:Int) (l:List P3) (a b:Int) (m:Int→Int) (hm: ∀ v,m v=mapV v a b) (x:tabE.T) (hx:newO (n,l)=some x):afun ⟨tyL,[(35,is15C),(36,why34C x),(37,has15C),(38,rmapXC (a,b,m))],[]⟩ Tryz.f12 [soupE.av (n,l),i64E.av a,i64E.av b] (fun r=>r=doW (doR (n,l) a b)):=by
  obtain ⟨e0,g,hs⟩:=new_full hx
  repeat' (conv=>whnf
           first | done | refine qN (by first | rfl | omega | (simp only [i64ok] at *;omega)) ?_ | apply qH | refine qG fun _=> ?_ | apply qB | apply qa | apply qo | refine qe (fun _=> ?_) (fun _=> ?_) | refine qn (fun _=> ?_) (fun _=> ?_) | refine qd (fun _=> ?_) (fun _=> ?_) | apply qt | refine qi (fun _=> ?_) (fun _=> ?_) | (refine atReg 17 rfl ?_;refine Or.inr (Exists.intro (Nat) (Exists.intro (loopRD n a b l) (And.intro (Exists.intro (0) (And.intro (Hold.out ?_) (And.intro ?_ (And.intro ?_ rfl)))) (fun i hi=> ?_))))) | ((with_reducible show (∃ y,And (Spec.inv (loopRD _ _ _ _) y) _));refine Exists.intro (i+1) (And.intro (Hold.out ?_) (And.intro (And.intro ?_ (And.intro ?_ rfl)) (Hold.out ?_)))) | (refine atReg 24 rfl ?_;refine Or.inr (Exists.intro (Nat) (Exists.intro (loopRD2 a b l m i (l.getD i (0,0,0))) (And.intro (Exists.intro (0) (And.intro (Hold.out ?_) (And.intro ?_ (And.intro ?_ rfl)))) (fun k hk=> ?_))))) | ((with_reducible show (∃ y,And (Spec.inv (loopRD2 _ _ _ _ _ _) y) _));refine Exists.intro (k+1) (And.intro (Hold.out ?_) (And.intro (And.intro ?_ (And.intro ?_ rfl)) (Hold.out ?_)))) | refine And.intro rfl ?_ | apply qE | apply qO | exact True.intro | apply qq | apply qs | refine qK (by kernel_rfl) ?_ | apply qr)
  all_goals try first | apply qz1 | apply qz2 | apply qz3 | apply qz4 | apply qz5 | apply qz6 | apply qz7 | apply qz8 | apply qz9 | apply qz0
  all_goals try simp only [take_one,take_one',set_one,take_all,qn1,rec_self,qn2,pair_eta,ETy.dflt,qn3,qn4,Int.reduceToNat,Int.reduceAdd,Int.reduceSub,Int.reduceNeg,Nat.reduceAdd,Nat.zero_add,loopRD,loopRD2] at *
  all_goals have hf:=hs.fit
  all_goals have hn:0≤n∧n≤4096:=⟨hf.1,hf.2.1⟩
  all_goals have hl:l.length≤8192:=hf.2.2.1
  all_goals try exact HoldEq.intro (doW_e (doE_rng hs (by show ¬ ((0≤a∧a<n)∧0≤b∧b<n);omega)) (by decide)).symm
  all_goals try exact absurd ((is_surf _).2 hs) (by rw [show isR (n,l)=false by assumption];decide)
  all_goals have hab:(0≤a∧a<n)∧(0≤b∧b<n):=by omega
  all_goals have hE:doE (n,l) a b=reasI (whyR x a b):=by rw [e0];exact doE_in hs hab
  all_goals try first
    | exact qh ⟨by rw [e0,(new_of hs).2.2],g⟩
    | exact HoldEq.intro (doW_e (e:=8) (hE.trans (by rw [show whyR x a b=1 by assumption,reas_1])) (by decide)).symm
    | exact HoldEq.intro (doW_e (e:=13) (hE.trans (by rw [show whyR x a b=2 by assumption,reas_2])) (by decide)).symm
    | exact HoldEq.intro (doW_e (e:=14) (hE.trans (by rw [show whyR x a b=3 by assumption,reas_3])) (by decide)).symm
    | exact HoldEq.intro (doW_e (e:=14) (hE.trans (by rw [show whyR x a b=4 by assumption,reas_4])) (by decide)).symm
    | exact absurd (by assumption:whyR x a b=3) (by assumption)
    | exact atL_0 a b l
    | exact rtL_0 a b l
    | exact fanL_0 a b l
    | exact drL_0 a b l
    | (rw [atL_0,rtL_0,fanL_0];exact HoldOb.intro rfl)
    | (rw [drL_0];exact HoldOb.intro rfl)
    | (refine qh ?_;omega)
    | (refine qh ?_;unfold i64ok;omega)
  all_goals try
    have hi9:i=l.length:=by omega
    subst hi9
    have hw:=why_rng x a b
    rw [doW_0 (hE.trans (by rw [show whyR x a b=0 by omega,reas_0]))]
    exact HoldEq.intro rfl
  all_goals try exact HoldEq.intro (doW_e (e:=14) (hE.trans (by rw [show whyR x a b=4 by omega,reas_4])) (by decide)).symm
  all_goals have hi1:i<l.length:=by omega
  all_goals have hla:(atL a b l i).length≤i:=at_len a b l i
  all_goals have hlr:(rtL a b l i).length≤i:=rt_len a b l i
  all_goals have hlf:(fanL a b l i).length≤i:=fan_len a b l i
  all_goals have hld:=drL_len a b l i
  all_goals have ht:(0≤(l.getD i (0,0,0)).1∧(l.getD i (0,0,0)).1<n)∧(0≤(l.getD i (0,0,0)).2.1∧(l.getD i (0,0,0)).2.1<n)∧(0≤(l.getD i (0,0,0)).2.2∧(l.getD i (0,0,0)).2.2<n):=triIn_spec (hf.2.2.2 i hi1)
  all_goals try (refine qh ?_;omega)
  all_goals have hdg: ¬ dgn (l.getD i (0,0,0)):=hs.deg i hi1
  all_goals have eD:drT a b (l.getD i (0,0,0))=mkN m (l.getD i (0,0,0)) 3:=by
              rw [mkN_3,hm,hm,hm,mapV_dr ht.1.1,mapV_dr ht.2.1.1,mapV_dr ht.2.2.1];rfl
  -- one that goes
  all_goals try
    have ka:hasV (l.getD i (0,0,0)) a:=hasB_iff.1 (by assumption)
    have kb:hasV (l.getD i (0,0,0)) b:=hasB_iff.1 (by assumption)
    obtain ⟨k1,k2,k3,k4⟩:=do_k1 (a:=a) (b:=b) (l:=l) (i:=i) (both_iff.2 ⟨ka,kb⟩)
    first
    | exact k1
    | exact k2
    | exact k3
    | exact k4
    | (rw [k1,k2,k3];exact HoldOb.intro (by simp only [List.length_append,List.length_singleton]))
    | (rw [k4];exact HoldOb.intro rfl)
  -- the start of the inner loop
  all_goals try first
    | (rw [fanP_0,List.append_nil];exact HoldOb.intro rfl)
    | (rw [fanP_0,List.append_nil];done)
    | (rw [mkN_0];exact HoldOb.intro rfl)
  -- one of its rounds
  all_goals try
    have hk3:(k:Int)<3:=by assumption
    have hg:=mkN_get (m:=m) (t:=l.getD i (0,0,0)) hk3
    have hc:0≤cmp3 (l.getD i (0,0,0)) k∧cmp3 (l.getD i (0,0,0)) k<n:=by
      rcases k_three hk3 with e | e | e<;>subst e
      · exact ht.1
      · exact ht.2.1
      · exact ht.2.2
    first
    | exact qh ⟨by rw [hg];omega,by omega,trivial,trivial,hm _⟩
    | (rw [hg,mkN_s1 hk3,mkN_s2 hk3,mkN_s3 hk3];exact HoldOb.intro rfl)
    | (rw [fanP_yes hdg hk3 (hg.symm.trans (by assumption)),← List.append_assoc];done)
    | (rw [fanP_yes hdg hk3 (hg.symm.trans (by assumption)),← List.append_assoc];exact HoldOb.intro (by simp only [List.length_append,List.length_singleton,Nat.add_assoc]))
    | (rw [fanP_no hk3 (fun e=>absurd (hg.trans e) (by assumption))];done)
    | (rw [fanP_no hk3 (fun e=>absurd (hg.trans e) (by assumption))];exact HoldOb.intro rfl)
    | (refine qh ?_;unfold i64ok;omega)
    | (have hfp:=fanP_len a (l.getD i (0,0,0)) i k;refine qh ?_;rw [List.length_append];omega)
  all_goals have hk9:k=3:=by omega
  all_goals subst hk9
  all_goals try rw [fanP_3]
  all_goals try
    have ka:hasV (l.getD i (0,0,0)) a:=hasB_iff.1 (by assumption)
    have kb: ¬ hasV (l.getD i (0,0,0)) b:=hasB_no.1 (by assumption)
    have kn: ¬ both a b (tg l i)=true:=fun k=>kb (both_iff.1 k).2
    obtain ⟨k1,k2,k3,k4⟩:=do_k2 (a:=a) (b:=b) (l:=l) (i:=i) kn ka
    try rw [if_pos ka]
    first
    | exact k1
    | exact k2
    | exact k3
    | (rw [← eD];exact k4)
    | (rw [k1,k2,k3];exact HoldOb.intro rfl)
    | (rw [k4];exact HoldOb.intro (by simp only [List.length_append,List.length_singleton]))
  all_goals
    have ka: ¬ hasV (l.getD i (0,0,0)) a:=hasB_no.1 (by assumption)
    obtain ⟨k1,k2,k3,k4⟩:=do_k3 (a:=a) (b:=b) (l:=l) (i:=i) ka
    try rw [if_neg ka,List.append_nil]
    first
    | exact k1
    | exact k2
    | exact k3
    | (rw [← eD];exact k4)
    | (rw [k1,k2,k3];exact HoldOb.intro rfl)
    | (rw [k4];exact HoldOb.intro (by simp only [List.length_append,List.length_singleton]))
theorem rdo0_vc (n:Int) (l:List P3) (a b:Int) (m:Int→Int) (x:tabE.T) (hx:newO (n,l)=none):afun ⟨tyL,[(35,is15C),(36,why34C x),(37,has15C),(38,rmapXC (a,b,m))],[]⟩ Tryz.f12 [soupE.av (n,l),i64E.av a,i64E.av b] (fun r=>r=doW (doR (n,l) a b)):=by
  have e:=doW_e (doE_no hx a b) (by decide)
  have hi:isR (n,l)=false:=by
    cases h:isR (n,l) with
    | false=>rfl
    | true=>have:=(new_of ((is_surf _).1 h)).1;rw [hx] at this;cases this
  repeat' (conv=>whnf
           first | done | refine qN (by first | rfl | omega | (simp only [i64ok] at *;omega)) ?_ | apply qH | refine qG fun _=> ?_ | apply qB | apply qa | apply qo | refine qe (fun _=> ?_) (fun _=> ?_) | refine qn (fun _=> ?_) (fun _=> ?_) | refine qd (fun _=> ?_) (fun _=> ?_) | apply qt | refine qi (fun _=> ?_) (fun _=> ?_) | refine And.intro rfl ?_ | apply qE | apply qO | exact True.intro | apply qq | apply qs | refine qK (by kernel_rfl) ?_ | apply qr)
  all_goals try first | apply qz1 | apply qz2 | apply qz3 | apply qz4 | apply qz5 | apply qz6 | apply qz7 | apply qz8 | apply qz9 | apply qz0
  all_goals try simp only [take_one,take_one',set_one,take_all,qn1,rec_self,qn2,pair_eta,ETy.dflt,qn3,qn4,Int.reduceToNat,Int.reduceAdd,Int.reduceSub,Int.reduceNeg,Nat.reduceAdd,Nat.zero_add] at *
  all_goals first
    | exact HoldEq.intro e.symm
    | (rw [hi] at *;contradiction)
def rdoC:List AV→Option Res:=con3 soupE i64E i64E (fun s a b=>some (none,none,doV (doR s a b)))
theorem rdoRow:FnRow Tryz.prog 12 rdoC:=⟨con3_ok fun s a b r h=>by
  cases h
  cases e:newO s with
  | none=>exact FnOk.res (fn_by (rulesF (fn:=[(35,is15C),(36,why34C _),(37,has15C),(38,rmapXC _)]) (fr:=[]) ⟨is15Row,(why34Row _),has15Row,(rmapXRow _),trivial⟩ trivial) Tryz.func12 (by kernel_rfl) fun _ _=>rdo0_vc s.1 s.2 a b (fun _=>0) (newT (0,[])) e) fun σ v h=>doW_rep h
  | some x=>exact FnOk.res (fn_by (rulesF (fn:=[(35,is15C),(36,why34C _),(37,has15C),(38,rmapXC _)]) (fr:=[]) ⟨is15Row,(why34Row _),has15Row,(rmapXRow _),trivial⟩ trivial) Tryz.func12 (by kernel_rfl) fun _ _=>rdo_vc s.1 s.2 a b (fun v=>mapV v a b) (fun _=>rfl) x e) fun σ v h=>doW_rep h,_,Tryz.func12,by kernel_rfl,by kernel_rfl⟩
attribute [local irreducible] doR great35R sameRec eqS
end S1
open Go Go.Vm Go.Proofs
namespace S1
def vT (f:Nat→Int):P3:=(f 0,f 1,f 2)
def fvJ (A:Int) (fan:List Int) (c:Int) (j:Nat) (v:Int):Int:=if c∈fan.take j then A else v
def kf (A:Int) (fan:List Int) (t:P3) (i k c:Nat):Int:=if c<k then fv A fan (3*(i:Int)+c) (upV A (cmp3 t c)) else cmp3 t c
def jf (A:Int) (fan:List Int) (t:P3) (i k j c:Nat):Int:=if c<k then fv A fan (3*(i:Int)+c) (upV A (cmp3 t c)) else if c=k then fvJ A fan (3*(i:Int)+c) j (upV A (cmp3 t c)) else cmp3 t c
theorem vget {f:Nat→Int} {k:Nat} (h:(k:Int)<3):[(vT f).1,(vT f).2.1,(vT f).2.2].getD k 0=f k:=by
  rcases k_three h with e | e | e<;>subst e<;>rfl
theorem if_swap (a b:Nat) (v w:Int):(if a=b then v else w)=if b=a then v else w:=by
  by_cases e:a=b
  · rw [if_pos e,if_pos e.symm]
  · rw [if_neg e,if_neg (Ne.symm e)]
theorem vset {T:TypeId} {f g:Nat→Int} {k:Nat} {v:Int} (h: ∀ c,c<3→g c=if c=k then v else f c):HoldOb (.flat T [.int .i64 (vT g).1,.int .i64 (vT g).2.1,.int .i64 (vT g).2.2]) (.flat T [.int .i64 (if k=0 then v else (vT f).1),.int .i64 (if k=1 then v else (vT f).2.1),.int .i64 (if k=2 then v else (vT f).2.2)]):=by
  have e0:(vT g).1=if k=0 then v else (vT f).1:=(h 0 (by decide)).trans (if_swap _ _ _ _)
  have e1:(vT g).2.1=if k=1 then v else (vT f).2.1:=(h 1 (by decide)).trans (if_swap _ _ _ _)
  have e2:(vT g).2.2=if k=2 then v else (vT f).2.2:=(h 2 (by decide)).trans (if_swap _ _ _ _)
  rw [e0,e1,e2];exact HoldOb.intro rfl
theorem vsame {T:TypeId} {f g:Nat→Int} (h: ∀ c,c<3→g c=f c):HoldOb (.flat T [.int .i64 (vT g).1,.int .i64 (vT g).2.1,.int .i64 (vT g).2.2]) (.flat T [.int .i64 (vT f).1,.int .i64 (vT f).2.1,.int .i64 (vT f).2.2]):=by
  have e0:(vT g).1=(vT f).1:=h 0 (by decide)
  have e1:(vT g).2.1=(vT f).2.1:=h 1 (by decide)
  have e2:(vT g).2.2=(vT f).2.2:=h 2 (by decide)
  rw [e0,e1,e2];exact HoldOb.intro rfl
theorem kf_0 (A:Int) (fan:List Int) (t:P3) (i:Nat):vT (kf A fan t i 0)=t:=rfl
theorem kf_k (A:Int) (fan:List Int) (t:P3) (i k:Nat):kf A fan t i k k=cmp3 t k:=if_neg (Nat.lt_irrefl _)
theorem kf_3 (A:Int) (fan:List Int) (t:P3) (i:Nat):vT (kf A fan t i 3)=rfT A fan i t:=by
  show (fv A fan (3*(i:Int)+((0:Nat):Int)) _,_)=_
  rw [show (3*(i:Int)+((0:Nat):Int))=3*i by omega];rfl
theorem fvJ_0 (A:Int) (fan:List Int) (c v:Int):fvJ A fan c 0 v=v:=if_neg (by simp)
theorem fvJ_s {A:Int} {fan:List Int} {c v:Int} {j:Nat} (hj:j<fan.length):fvJ A fan c (j+1) v=if fan.getD j 0=c then A else fvJ A fan c j v:=by
  unfold fvJ
  rw [List.take_succ_eq_append_getElem hj,gdE,gE hj]
  by_cases h1:fan[j]=c
  · rw [if_pos (by simp [h1]),if_pos (by simpa using h1)]
  · have h2: ¬ c=fan[j]:=fun e=>h1 e.symm
    have h3: ¬ ((some fan[j]).getD 0=c):=h1
    rw [if_neg h3]
    by_cases h:c∈fan.take j
    · rw [if_pos h,if_pos (List.mem_append_left _ h)]
    · rw [if_neg h,if_neg (by rw [List.mem_append,List.mem_singleton];exact fun k=>k.elim h h2)]
theorem fvJ_all (A:Int) (fan:List Int) (c v:Int):fvJ A fan c fan.length v=fv A fan c v:=by unfold fvJ fv;rw [List.take_length]
theorem jf_0y {A:Int} {fan:List Int} {t:P3} {i k:Nat} (h:cmp3 t k≥A) (c:Nat):jf A fan t i k 0 c=if c=k then cmp3 t k+1 else kf A fan t i k c:=by
  unfold jf kf
  by_cases e:c=k
  · subst e;rw [if_neg (Nat.lt_irrefl _),if_pos rfl,if_pos rfl,fvJ_0];exact if_pos h
  · rw [if_neg e,if_neg e]
theorem jf_0n {A:Int} {fan:List Int} {t:P3} {i k:Nat} (h: ¬ cmp3 t k≥A) (c:Nat):jf A fan t i k 0 c=kf A fan t i k c:=by
  unfold jf kf
  by_cases e:c=k
  · subst e;rw [if_neg (Nat.lt_irrefl _),if_pos rfl,if_neg (Nat.lt_irrefl _),fvJ_0];exact if_neg h
  · rw [if_neg e]
theorem jf_sy {A:Int} {fan:List Int} {t:P3} {i k j:Nat} (hj:j<fan.length) (h:fan.getD j 0=3*(i:Int)+k) (c:Nat):jf A fan t i k (j+1) c=if c=k then A else jf A fan t i k j c:=by
  unfold jf
  by_cases e:c=k
  · subst e;rw [if_neg (Nat.lt_irrefl _),if_pos rfl,if_pos rfl,fvJ_s hj,if_pos h]
  · rw [if_neg e,if_neg e,if_neg e]
theorem jf_sn {A:Int} {fan:List Int} {t:P3} {i k j:Nat} (hj:j<fan.length) (h: ¬ fan.getD j 0=3*(i:Int)+k) (c:Nat):jf A fan t i k (j+1) c=jf A fan t i k j c:=by
  unfold jf
  by_cases e:c=k
  · subst e;rw [if_neg (Nat.lt_irrefl _),if_pos rfl,if_neg (Nat.lt_irrefl _),if_pos rfl,fvJ_s hj,if_neg h]
  · rw [if_neg e,if_neg e]
theorem kf_s (A:Int) (fan:List Int) (t:P3) (i k c:Nat):kf A fan t i (k+1) c=jf A fan t i k fan.length c:=by
  unfold jf kf
  by_cases e:c=k
  · subst e;rw [if_pos (Nat.lt_succ_self _),if_neg (Nat.lt_irrefl _),if_pos rfl,fvJ_all]
  · rw [if_neg e]
    by_cases h:c<k
    · rw [if_pos h,if_pos (by omega)]
    · rw [if_neg h,if_neg (by omega)]
theorem aF_0 (at_:List Int):aF at_ 0=0:=rfl
theorem outR_0 (at_:List Int) (ts T:List P3) (A:Int) (fan:List Int):outR at_ ts T A fan 0=[]:=rfl
theorem outR_s (at_:List Int) (ts T:List P3) (A:Int) (fan:List Int) (i:Nat):outR at_ ts T A fan (i+1)=outR at_ ts T A fan i++[rbT at_ ts T A fan i]:=by unfold outR;rw [List.range_succ,List.map_append];rfl
theorem outR_len (at_:List Int) (ts T:List P3) (A:Int) (fan:List Int) (i:Nat):(outR at_ ts T A fan i).length=i:=by unfold outR;rw [List.length_map,List.length_range]
theorem doR_len (s:SoT) (a b:Int) (h:s.2.length≤8192):(doR s a b).1.2.length≤100000∧((doR s a b).2.1.2.2.1.length≤100000∧(doR s a b).2.1.2.2.2.1.length≤100000∧(doR s a b).2.1.2.2.2.2.length≤100000):=by
  by_cases he:doE s a b=0
  · have a1:=drL_len a b s.2 s.2.length
    have a2:=at_len a b s.2 s.2.length
    have a3:=rt_len a b s.2 s.2.length
    have a4:=fan_len a b s.2 s.2.length
    rw [doR_0 he]
    refine ⟨?_,?_,?_,?_⟩
    · show (drL a b s.2 s.2.length).length≤_;omega
    · show (atL a b s.2 s.2.length).length≤_;omega
    · show (rtL a b s.2 s.2.length).length≤_;omega
    · show (fanL a b s.2 s.2.length).length≤_;omega
  · rw [doR_e he];exact ⟨Nat.zero_le _,Nat.zero_le _,Nat.zero_le _,Nat.zero_le _⟩
theorem undoW_3r {s:SoT} {r:RecT} (hs:Surf s) (h: ∀ w,rbk s r=some w→doR w r.1 r.2.1≠(s,r,0)):undoW (undoR s r)= .tup [.agg [.int .i64 0,.val (.slice none 0 0)],.s (.int .i64 3)]:=by
  rw [undoR_no (fun ⟨w,hw⟩=>h w (doR_back hw).2 hw),if_pos ((is_surf s).2 hs)];rfl
theorem rbk_no {s:SoT} {r:RecT} (h: ¬ (rbC s r∧bkN s r - aF r.2.2.1 (bkN s r)≤s.2.length)): ∀ w,rbk s r=some w→doR w r.1 r.2.1≠(s,r,0):=fun w e=>by
  unfold rbk at e;rw [if_neg h] at e;cases e
def loopRU (N A:Int) (l:List P3) (at_:List Int) (ts:List P3) (fan:List Int):Spec Nat where
  inv i:=i≤l.length+at_.length∧i - aF at_ i≤l.length
  live i:=[(10,.s (.int .i64 i)),(8,.s (.int .i64 (aF at_ i))),(9,.s (.int .i64 ((i - aF at_ i:Nat))))]
  keep:=[2,3,4,6,7]
  heap i:=[(3,.flat 24 [.int .i64 (N+1),.own 4 0 (outR at_ ts l A fan i).length]),(4,.row .arr3 61 (outR at_ ts l A fan i))]
  keepH:=[0,1,2]
  mu i:=l.length+at_.length - i
  nils:=[3]
def loopRU2 (A:Int) (fan:List Int) (i:Nat) (t:P3):Spec Nat where
  inv k:=k≤3
  live k:=[(12,.s (.int .i64 k))]
  keep:=[2,3,4,6,7,8,9,10,11]
  heap k:=[(5,.flat 61 [.int .i64 (vT (kf A fan t i k)).1,.int .i64 (vT (kf A fan t i k)).2.1,.int .i64 (vT (kf A fan t i k)).2.2])]
  keepH:=[0,1,2,3,4]
  mu k:=3 - k
def loopRU3 (A:Int) (fan:List Int) (i:Nat) (t:P3) (k:Nat):Spec Nat where
  inv j:=j≤fan.length
  live j:=[(13,.s (.int .i64 j))]
  keep:=[2,3,4,6,7,8,9,10,11,12]
  heap j:=[(5,.flat 61 [.int .i64 (vT (jf A fan t i k j)).1,.int .i64 (vT (jf A fan t i k j)).2.1,.int .i64 (vT (jf A fan t i k j)).2.2])]
  keepH:=[0,1,2,3,4]
  mu j:=fan.length - j
attribute [local irreducible] undoW doR eqS sameRec isR vT kf jf outR aF
theorem rundo_vc (n:Int) (l:List P3) (A B:Int) (at_:List Int) (ts:List P3) (fan:List Int) (hs:Surf (n,l)) (hz:at_.length≤100000∧ts.length≤100000∧fan.length≤100000):afun ⟨tyL,[(35,is15C),(12,rdoC),(13,same15C),(14,rsameC)],[]⟩ Tryz.f17 [soupE.av (n,l),recE.av (A,B,at_,ts,fan)] (fun v=>v=undoW (undoR (n,l) (A,B,at_,ts,fan))):=by
  repeat' (conv=>whnf
           first | done | refine qN (by first | rfl | omega | (simp only [i64ok] at *;omega)) ?_ | apply qH | refine qG fun _=> ?_ | apply qB | apply qa | apply qo | refine qe (fun _=> ?_) (fun _=> ?_) | refine qn (fun _=> ?_) (fun _=> ?_) | refine qd (fun _=> ?_) (fun _=> ?_) | apply qt | refine qi (fun _=> ?_) (fun _=> ?_) | (refine atReg 9 rfl ?_;refine Or.inr (Exists.intro (Nat) (Exists.intro (loopRU n A l at_ ts fan) (And.intro (Exists.intro (0) (And.intro (Hold.out ?_) (And.intro ?_ (And.intro ?_ rfl)))) (fun i hi=> ?_))))) | ((with_reducible show (∃ y,And (Spec.inv (loopRU _ _ _ _ _ _) y) _));refine Exists.intro (i+1) (And.intro (Hold.out ?_) (And.intro (And.intro ?_ (And.intro ?_ rfl)) (Hold.out ?_)))) | (refine atReg 19 rfl ?_;refine Or.inr (Exists.intro (Nat) (Exists.intro (loopRU2 A fan i (l.getD (i - aF at_ i) (0,0,0))) (And.intro (Exists.intro (0) (And.intro (Hold.out ?_) (And.intro ?_ (And.intro ?_ rfl)))) (fun k hk=> ?_))))) | ((with_reducible show (∃ y,And (Spec.inv (loopRU2 _ _ _ _) y) _));refine Exists.intro (k+1) (And.intro (Hold.out ?_) (And.intro (And.intro ?_ (And.intro ?_ rfl)) (Hold.out ?_)))) | (refine atReg 24 rfl ?_;refine Or.inr (Exists.intro (Nat) (Exists.intro (loopRU3 A fan i (l.getD (i - aF at_ i) (0,0,0)) k) (And.intro (Exists.intro (0) (And.intro (Hold.out ?_) (And.intro ?_ (And.intro ?_ rfl)))) (fun j hj=> ?_))))) | ((with_reducible show (∃ y,And (Spec.inv (loopRU3 _ _ _ _ _) y) _));refine Exists.intro (j+1) (And.intro (Hold.out ?_) (And.intro (And.intro ?_ (And.intro ?_ rfl)) (Hold.out ?_)))) | refine And.intro rfl ?_ | apply qE | apply qO | exact True.intro | apply qq | apply qs | refine qK (by kernel_rfl) ?_ | apply qr)
  all_goals try first | apply qz1 | apply qz2 | apply qz3 | apply qz4 | apply qz5 | apply qz6 | apply qz7 | apply qz8 | apply qz9 | apply qz0
  all_goals try simp only [take_one,take_one',set_one,take_all,qn1,rec_self,qn2,pair_eta,ETy.dflt,qn3,qn4,Int.reduceToNat,Int.reduceAdd,Int.reduceSub,Int.reduceNeg,Nat.reduceAdd,Nat.zero_add,loopRU,loopRU2,loopRU3] at *
  all_goals have hf:=hs.fit
  all_goals have hn:0≤n∧n≤4096:=⟨hf.1,hf.2.1⟩
  all_goals have hl:l.length≤8192:=hf.2.2.1
  all_goals try exact absurd ((is_surf _).2 hs) (by rw [show isR (n,l)=false by assumption];decide)
  all_goals try (refine HoldEq.intro (undoW_3r hs (rbk_no fun k=> ?_)).symm;have k1:at_.length=ts.length∧bkN (n,l) (A,B,at_,ts,fan)≤8192∧0≤A∧A≤n:=k.1;have k2:bkN (n,l) (A,B,at_,ts,fan)=l.length+at_.length:=rfl;omega)
  all_goals try first
    | (refine qh ?_;unfold i64ok;omega)
    | (refine qh ?_;omega)
    | exact outR_0 at_ ts l A fan
    | (rw [outR_0];exact HoldOb.intro rfl)
    | exact qh ⟨Nat.zero_le _,by omega⟩
    | (rw [aF_0];rfl)
    | (rw [kf_0];exact HoldOb.intro rfl)
    | omega
  -- the loop's end
  all_goals try
    have hi9:i=l.length+at_.length:=by omega
    have hi2:=hi.2
    subst hi9
    have hb:rbk (n,l) (A,B,at_,ts,fan)=some (n+1,outR at_ ts l A fan (l.length+at_.length)):=if_pos ⟨⟨(by omega:at_.length=ts.length),(by omega:l.length+at_.length≤8192),(by omega:0≤A),(by omega:A≤n)⟩,hi2⟩
    first
    | (refine qh ?_;have k:=doR_len (n+1,outR at_ ts l A fan (l.length+at_.length)) A B (by show (outR at_ ts l A fan (l.length+at_.length)).length≤8192;rw [outR_len];omega);first | exact k.1 | exact k.2)
    | (refine HoldEq.intro (undoW_3r hs (fun w hw hd=> ?_)).symm
       rw [hb] at hw
       cases hw
       have hd:doR (n+1,outR at_ ts l A fan (l.length+at_.length)) A B=((n,l),(A,B,at_,ts,fan),0):=hd
       simp only [hd,eqS_self,sameRec_self,ne_eq,not_true_eq_false,Bool.true_eq_false,reduceCtorEq] at *
       done)
    | (have h3:(doR (n+1,outR at_ ts l A fan (l.length+at_.length)) A B).2.2=0:=by omega
       have h1:eqS (doR (n+1,outR at_ ts l A fan (l.length+at_.length)) A B).1 (n,l)=true:=by assumption
       have h2:sameRec (doR (n+1,outR at_ ts l A fan (l.length+at_.length)) A B).2.1 (A,B,at_,ts,fan)=true:=by assumption
       have h:doR (n+1,outR at_ ts l A fan (l.length+at_.length)) A B=((n,l),(A,B,at_,ts,fan),0):=Prod.ext (eqS_iff.1 h1) (Prod.ext (sameRec_iff.1 h2) h3)
       rw [undoW_0 (r:=(A,B,at_,ts,fan)) h]
       exact HoldEq.intro rfl)
  all_goals have hi1:i<l.length+at_.length:=by omega
  all_goals have ha:=aF_le at_ i
  all_goals have hol:=outR_len at_ ts l A fan i
  -- one that is put in again
  all_goals try
    have c1:aF at_ i<at_.length:=by omega
    have c2:at_.getD (aF at_ i) 0=(i:Int):=by assumption
    have e1:aF at_ (i+1)=aF at_ i+1:=by rw [aF_s,if_pos ⟨c1,c2⟩]
    have e2:outR at_ ts l A fan (i+1)=outR at_ ts l A fan i++[ts.getD (aF at_ i) (0,0,0)]:=by
      rw [outR_s];unfold rbT;rw [if_pos ⟨c1,c2⟩]
    first
    | exact e2
    | (rw [e2];exact HoldOb.intro (by rw [List.length_append];rfl))
    | (refine qh ?_;omega)
    | omega
  -- none
  all_goals have c0: ¬ (aF at_ i<at_.length∧at_.getD (aF at_ i) 0=(i:Int)):=by
              first
              | (rintro ⟨c1,c2⟩;exact absurd c2 (by assumption))
              | (rintro ⟨c1,c2⟩;omega)
  all_goals have e1:aF at_ (i+1)=aF at_ i:=by rw [aF_s,if_neg c0]
  all_goals try
    refine HoldEq.intro (undoW_3r hs (rbk_no fun k=> ?_)).symm
    have k2:l.length+at_.length - aF at_ (l.length+at_.length)≤l.length:=k.2
    have k3:=fF_mono at_ (i:=i+1) (j:=l.length+at_.length) (by omega)
    omega
  all_goals have hq:i - aF at_ i<l.length:=by omega
  all_goals have ht:=triIn_spec (hf.2.2.2 (i - aF at_ i) hq)
  all_goals have ht:(0≤(l.getD (i - aF at_ i) (0,0,0)).1∧(l.getD (i - aF at_ i) (0,0,0)).1<n)∧(0≤(l.getD (i - aF at_ i) (0,0,0)).2.1∧(l.getD (i - aF at_ i) (0,0,0)).2.1<n)∧(0≤(l.getD (i - aF at_ i) (0,0,0)).2.2∧(l.getD (i - aF at_ i) (0,0,0)).2.2<n):=ht
  all_goals have e2:outR at_ ts l A fan (i+1)=outR at_ ts l A fan i++[rfT A fan i (l.getD (i - aF at_ i) (0,0,0))]:=by
              rw [outR_s];unfold rbT;rw [if_neg c0]
  all_goals generalize hT:l.getD (i - aF at_ i) (0,0,0)=t at *
  all_goals try
    have hk3:(k:Int)<3:=by assumption
    have hg:=vget (f:=kf A fan t i k) hk3
    rw [kf_k] at hg
    have hc:0≤cmp3 t k∧cmp3 t k<n:=by
      rcases k_three hk3 with e | e | e<;>subst e
      · exact ht.1
      · exact ht.2.1
      · exact ht.2.2
    first
    | (refine qh ?_;rw [hg];unfold i64ok;omega)
    | (refine vset fun c _=> ?_;exact jf_sy (by omega) (by assumption) c)
    | (refine vsame fun c _=> ?_;exact jf_sn (by omega) (by assumption) c)
    | (rw [hg];refine vset fun c _=> ?_;exact jf_0y (hg▸(by assumption)) c)
    | (refine vsame fun c _=> ?_;exact jf_0n (fun h=>absurd (hg.symm▸h) (by assumption)) c)
    | (have hj9:j=fan.length:=by omega
       subst hj9
       refine vsame fun c _=> ?_;exact kf_s A fan t i k c)
  all_goals have hk9:k=3:=by omega
  all_goals subst hk9
  all_goals first
    | (rw [kf_3];exact e2)
    | (rw [e2];exact HoldOb.intro (by rw [List.length_append];rfl))
    | (refine qh ?_;omega)
    | omega
theorem rundo0_vc (n:Int) (l:List P3) (r:RecT) (hx:newO (n,l)=none):afun ⟨tyL,[(35,is15C),(12,rdoC),(13,same15C),(14,rsameC)],[]⟩ Tryz.f17 [soupE.av (n,l),recE.av r] (fun v=>v=undoW (undoR (n,l) r)):=by
  have e:=undoW_11 (r:=r) hx
  have hi:isR (n,l)=false:=by
    cases h:isR (n,l) with
    | false=>rfl
    | true=>have:=(new_of ((is_surf _).1 h)).1;rw [hx] at this;cases this
  repeat' (conv=>whnf
           first | done | refine qN (by first | rfl | omega | (simp only [i64ok] at *;omega)) ?_ | apply qH | refine qG fun _=> ?_ | apply qB | apply qa | apply qo | refine qe (fun _=> ?_) (fun _=> ?_) | refine qn (fun _=> ?_) (fun _=> ?_) | refine qd (fun _=> ?_) (fun _=> ?_) | apply qt | refine qi (fun _=> ?_) (fun _=> ?_) | refine And.intro rfl ?_ | apply qE | apply qO | exact True.intro | apply qq | apply qs | refine qK (by kernel_rfl) ?_ | apply qr)
  all_goals try first | apply qz1 | apply qz2 | apply qz3 | apply qz4 | apply qz5 | apply qz6 | apply qz7 | apply qz8 | apply qz9 | apply qz0
  all_goals try simp only [take_one,take_one',set_one,take_all,qn1,rec_self,qn2,pair_eta,ETy.dflt,qn3,qn4,Int.reduceToNat,Int.reduceAdd,Int.reduceSub,Int.reduceNeg,Nat.reduceAdd,Nat.zero_add] at *
  all_goals first
    | exact HoldEq.intro e.symm
    | (rw [hi] at *;contradiction)
noncomputable def rundoC:List AV→Option Res:=con2 soupE recE (fun s r=>some (none,some (r.2.2.1.length≤100000∧r.2.2.2.1.length≤100000∧r.2.2.2.2.length≤100000),undoV (undoR s r)))
theorem rundoRow:FnRow Tryz.prog 17 rundoC:=⟨con2_ok fun s r q h=>by
  cases h
  cases e:newO s with
  | none=>exact FnOk.res (fn_by (rulesF (fn:=[(35,is15C),(12,rdoC),(13,same15C),(14,rsameC)]) (fr:=[]) ⟨is15Row,rdoRow,same15Row,rsameRow,trivial⟩ trivial) Tryz.func17 (by kernel_rfl) fun _ _=>rundo0_vc s.1 s.2 r e) fun σ v h=>undoW_rep h
  | some x=>exact FnOk.res (fn_by (rulesF (fn:=[(35,is15C),(12,rdoC),(13,same15C),(14,rsameC)]) (fr:=[]) ⟨is15Row,rdoRow,same15Row,rsameRow,trivial⟩ trivial) Tryz.func17 (by kernel_rfl) fun _ h=>rundo_vc s.1 s.2 r.1 r.2.1 r.2.2.1 r.2.2.2.1 r.2.2.2.2 (new_full e).2.2 h) fun σ v h=>undoW_rep h,_,Tryz.func17,by kernel_rfl,by kernel_rfl⟩
attribute [local irreducible] undoR great35R
theorem undo_len {s:SoT} {r:RecT} (hz:r.2.2.1.length≤20∧s.2.length≤40):(undoR s r).1.2.length≤100000:=by
  by_cases h: ∃ w,doR w r.1 r.2.1=(s,r,0)
  · obtain ⟨w,hw⟩:=h
    rw [undoR_of hw]
    have:=(doR_was hw).1.surf.fit.2.2.1
    show w.2.length≤_;omega
  · rw [undoR_no h];exact Nat.zero_le _
theorem lawCU_vc (n:Int) (l:List P3) (A B:Int) (at_:List Int) (ts:List P3) (fan:List Int):afun ⟨tyL,[(9,awake35C),(10,great35C),(11,cdoC),(16,cundoC),(17,rundoC),(15,plainC),(14,rsameC),(13,same15C)],[]⟩ Tryz.f5 [soupE.av (n,l),recE.av (A,B,at_,ts,fan)] (fun r=>r= .s (.bool true)):=by
  repeat' (conv=>whnf
           first | done | refine qN (by first | rfl | omega | (simp only [i64ok] at *;omega)) ?_ | apply qH | refine qG fun _=> ?_ | apply qB | apply qa | apply qo | refine qe (fun _=> ?_) (fun _=> ?_) | refine qn (fun _=> ?_) (fun _=> ?_) | refine qd (fun _=> ?_) (fun _=> ?_) | apply qt | refine qi (fun _=> ?_) (fun _=> ?_) | refine And.intro rfl ?_ | apply qE | apply qO | exact True.intro | apply qq | apply qs | refine qK (by kernel_rfl) ?_ | apply qr)
  all_goals try first | apply qz1 | apply qz2 | apply qz3 | apply qz4 | apply qz5 | apply qz6 | apply qz7 | apply qz8 | apply qz9 | apply qz0
  all_goals try simp only [take_one,take_one',set_one,take_all,qn1,rec_self,qn2,pair_eta,ETy.dflt,qn3,qn4,Int.reduceToNat,Int.reduceAdd,Int.reduceSub,Int.reduceNeg,Nat.reduceAdd,Nat.zero_add] at *
  all_goals have hg:l.length≤40:=by
              have h1:great35R (n,l)≠1:=by assumption
              apply Classical.byContradiction
              intro k
              exact h1 (by unfold great35R;exact if_pos (.inl (by show (l.length:Int)>40;omega)))
  all_goals try first
    | exact absurd rfl (by assumption)
    | exact qh (undo_len ⟨by show at_.length≤20;omega,hg⟩)
    | (rw [eqS_self] at *;contradiction)
  all_goals have h0:doR (undoR (n,l) (A,B,at_,ts,fan)).1 A B=((n,l),(A,B,at_,ts,fan),0):=undo_do (s:=(n,l)) (r:=(A,B,at_,ts,fan)) (Prod.ext rfl (by assumption))
  all_goals simp only [h0,eqS_self,sameRec_self] at *
  all_goals first
    | exact absurd rfl (by assumption)
    | contradiction
    | exact qh (show l.length≤100000 by omega)
    | (refine Hold.intro ⟨?_,?_,?_⟩<;>omega)
def lawCUC:List AV→Option Res:=con2 soupE recE (fun _ _=>some (none,none,.s (.bool true)))
theorem lawCURow:FnRow Tryz.prog 5 lawCUC:=⟨con2_ok fun s q r h=>by
  cases h
  exact fn_by (rulesF (fn:=[(9,awake35C),(10,great35C),(11,cdoC),(16,cundoC),(17,rundoC),(15,plainC),(14,rsameC),(13,same15C)]) (fr:=[]) ⟨awake35Row,great35Row,cdoRow,cundoRow,rundoRow,plainRow,rsameRow,same15Row,trivial⟩ trivial) Tryz.func5 (by kernel_rfl) fun _ _=>lawCU_vc s.1 s.2 q.1 q.2.1 q.2.2.1 q.2.2.2.1 q.2.2.2.2,_,Tryz.func5,by kernel_rfl,by kernel_rfl⟩
end S1
