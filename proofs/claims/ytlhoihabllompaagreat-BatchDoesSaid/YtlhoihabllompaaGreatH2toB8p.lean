/- A part of the proofs of the laws. -/
import Derived.Test.YtlhoihabllompaaGreatB2ptoY7
import Derived.Test.YtlhoihabllompaaGreatW2toB1p
import Derived.Test.YtlhoihabllompaaGreatFan1toF7
import Derived.Test.YtlhoihabllompaaGreatT5toT22
set_option linter.unusedSimpArgs false
set_option linter.unusedVariables false
set_option maxHeartbeats 8000000
set_option maxRecDepth 100000
open Go.Proofs.Tryz
open Go Go.Vm Go.Proofs
namespace S1
def zTY (v:Int):List (Int×Int)->Int
 | []=> -1
 | e::r=>if e.2=v then e.1 else zTY v r
def z1m (x:yI.T) (v:Int):Int:=zTY v (zLv x)
def zVq (L:List (Int×Int)) (v:Int):Spec Nat where
 inv k:=k<=L.length/\zTY v L=zTY v (L.drop k)
 live k:=[(10,.s (.int .i64 k))]
 keep:=[1,8,9]
 heap _:=[]
 keepH:=[]
 mu k:=L.length - k
theorem zNb {l:List (Int×Int)} {x:Nat} (h:x<l.length):l.drop x=l.getD x (0,0)::l.drop (x+1):=by
 rw [List.drop_eq_getElem_cons h,zR,zG h];rfl
attribute [local irreducible] zLv zTY
theorem zX3 (x:yI.T) (v:Int) (g:Good x):zAG ⟨tyL,[(99,zIq)],[]⟩ f63 [(ETy.pt yI).av (some x),y8.av v] (fun r=>r= .s (.int .i64 (z1m x v))):=by
 repeat' (conv=>whnf
          first|done|refine qy ?_|refine qG fun _=> ?_|refine qw (fun _=> ?_) (fun _=> ?_)|apply qt|refine qi (fun _=> ?_) (fun _=> ?_)|(refine zaB 2 rfl (zVq (zLv x) v) (0) ?_ ?_ ?_ fun k hk=> ?_)|with_reducible refine zaA (zVq _ _) (k+1) ?_ ?_ ?_ ?_|refine qu ?_|refine qv ?_ ?_|exact zO)
 all_goals try first|refine qz ?_|apply qz5
 all_goals try simp only [qn0,z7,zX,ETy.dflt,Int.reduceToNat,Int.reduceAdd,Int.reduceSub,Int.reduceNeg,Nat.reduceAdd,zVq,z1m] at *
 ·exact yJ.intro (fun y h=>by cases h;exact g)
 ·exact yJ.intro ⟨zbH _,by rw [zb6]⟩
 all_goals try have hk1:k<(zLv x).length:=Int.ofNat_lt.1 (by assumption)
 ·have h:((zLv x).getD k (0,0)).2=v:=by assumption
  rw [hk.2,zNb hk1];unfold zTY;rw [if_pos h];rfl
 ·have h:((zLv x).getD k (0,0)).2≠v:=by assumption
  refine yJ.intro ⟨hk1,?_⟩;rw [hk.2,zNb hk1];conv=>lhs;unfold zTY
  rw [if_neg h]
 ·refine yJ.intro ?_;omega
 ·have h: ¬ (k:Int)<(zLv x).length:=by assumption
  rw [hk.2,zb7 (by omega)];unfold zTY;rfl
theorem zTS (v:Int):zAG ⟨tyL,[(99,zIq)],[]⟩ f63 [(ETy.pt yI).av none,y8.av v] (fun r=>r= .s (.int .i64 (-1))):=by
 repeat' (conv=>whnf
          first|done|refine qy ?_|refine qG fun _=> ?_|refine qw (fun _=> ?_) (fun _=> ?_)|apply qt|refine qi (fun _=> ?_) (fun _=> ?_)|(refine zdg 2 rfl ?_;refine Or.inl (zB (1) ?_))|refine qu ?_|refine qv ?_ ?_|exact zO)
 all_goals try first|refine qz ?_|apply qz5
 all_goals try simp only [qn0,z7,zX,ETy.dflt,Int.reduceToNat,Int.reduceAdd,Int.reduceSub,Int.reduceNeg,Nat.reduceAdd] at *
 all_goals try exact yJ.intro (fun y h=>by cases h)
 all_goals try rfl
 all_goals exact absurd (show (0:Int)<(0:Nat) by assumption) (by decide)
def zYk:List AV->Option Res:=zCr (.pt yI) y8 (fun o v=>some (none,some (∀ x,o=some x->Good x),.s (.int .i64 (match o with|some x=>z1m x v|none=> -1))))
theorem zVp:qM prog 63 zYk:=mkR (jD fun o v r h=>by
 cases h;cases o with
 | none=>exact fb (fn:=[(99,zIq)]) ⟨zLe,trivial⟩ func63 fun _ _=>zTS v
 | some x=>exact fb (fn:=[(99,zIq)]) ⟨zLe,trivial⟩ func63 fun _ h=>zX3 x v (h x rfl)) func63
def zAV:List zAJ->Int->Int
 | [],v=>v
 | r::l,v=>if zJs v r.1 r.2.1<0 then -1 else zAV l (zJs v r.1 r.2.1)
def zOr:zAJ:=(0,0,[],[],[])
def nwK (R:List zAJ) (v:Int):Nat->Int
 | 0=>v
 | k+1=>zJs (nwK R v k) (R.getD k zOr).1 (R.getD k zOr).2.1
theorem zNV {l:List zAJ} {x:Nat} (h:x<l.length):l.drop x=l.getD x zOr::l.drop (x+1):=by
 rw [List.drop_eq_getElem_cons h,zR,zG h];rfl
theorem zOn {R:List zAJ} {k:Nat} (h:k<R.length):R.getD k zOr∈R:=by
 rw [zR,zG h];exact yQ h
theorem z3L {v a b:Int} (hv:v<=1000000) (hb:b<=1000000):zJs v a b<=1000000:=by
 unfold zJs
 (repeat' split)<;>omega
def okR (R:List zAJ):Prop:= ∀ r∈R,-1000000<=r.2.1/\r.2.1<=1000000
def zYr (R:List zAJ) (v:Int):Spec Nat where
 inv k:=k<=R.length/\zAV R v=zAV (R.drop k) (nwK R v k)/\(-1000000<=nwK R v k/\nwK R v k<=1000000)
 live k:=[(0,.s (.int .i64 (nwK R v k))),(9,.s (.int .i64 k))]
 keep:=[7,8]
 heap _:=[]
 keepH:=[]
 mu k:=R.length - k
attribute [local irreducible] zJs zAV nwK
theorem z7A (R:List zAJ) (v:Int) (hR:okR R) (hv: -1000000<=v/\v<=1000000):zAG ⟨tyL,[(104,zPo)],[]⟩ f66 [y8.av v,(ETy.sl zG3).av R] (fun r=>r= .s (.int .i64 (zAV R v))):=by
 repeat' (conv=>whnf
          first|done|refine qy ?_|refine qG fun _=> ?_|refine qw (fun _=> ?_) (fun _=> ?_)|apply qt|refine qi (fun _=> ?_) (fun _=> ?_)|(refine zaB 2 rfl (zYr R v) (0) ?_ ?_ ?_ fun k hk=> ?_)|with_reducible refine zaA (zYr _ _) (k+1) ?_ ?_ ?_ ?_|refine qu ?_|refine qv ?_ ?_|exact zO)
 all_goals try first|refine qz ?_|apply qz5
 all_goals try simp only [qn0,z7,zX,ETy.dflt,Int.reduceToNat,Int.reduceAdd,Int.reduceSub,Int.reduceNeg,Nat.reduceAdd,zYr] at *
 ·refine yJ.intro ⟨zbH _,by rw [zb6];unfold nwK;rfl,?_⟩;unfold nwK;exact hv
 ·unfold nwK;rfl
 all_goals try have hk1:k<R.length:=Int.ofNat_lt.1 (by assumption)
 ·exact yJ.intro ⟨hk.2.2,hR _ (zOn hk1)⟩
 ·have h:zJs (nwK R v k) (R.getD k zOr).1 (R.getD k zOr).2.1<0:=by assumption
  rw [hk.2.1,zNV hk1];unfold zAV;rw [if_pos h]
 ·have h: ¬ zJs (nwK R v k) (R.getD k zOr).1 (R.getD k zOr).2.1<0:=by assumption
  have e:nwK R v (k+1)=zJs (nwK R v k) (R.getD k zOr).1 (R.getD k zOr).2.1:=by conv=>lhs;unfold nwK
  have hb:=z3L (a:=(R.getD k zOr).1) hk.2.2.2 (hR _ (zOn hk1)).2;refine yJ.intro ⟨hk1,?_,by rw [e];exact ⟨by omega,hb⟩⟩;rw [hk.2.1,zNV hk1,e];conv=>lhs;unfold zAV
  rw [if_neg h]
 ·conv=>lhs;unfold nwK
  rfl
 ·refine yJ.intro ?_;omega
 ·have h: ¬ (k:Int)<R.length:=by assumption
  rw [hk.2.1,zb7 (by omega)];unfold zAV;rfl
def z60:List AV->Option Res:=zCr y8 (.sl zG3) (fun (v:Int) (R:List zAJ)=>some (none,some ((-1000000<=v/\v<=1000000)/\okR R),.s (.int .i64 (zAV R v))))
theorem z2u:qM prog 66 z60:=mkR (jD fun v R r h=>by
 cases h;exact fb (fn:=[(104,zPo)]) ⟨zPh,trivial⟩ func66 fun _ h=>z7A R v h.2 h.1) func66
def imL (R:List zAJ) (k:Nat):List Int:=(List.range k).map fun (v:Nat)=>zAV R v
def zYl (n:Int) (R:List zAJ):Int:=if n<0\/n>4096 then 2 else if (imL R n.toNat).all (fun v=>decide (0<=v))=true then 0 else 3
def zNy (n:Int) (R:List zAJ):List Int×Int:=if zYl n R=0 then (imL R n.toNat,0) else ([],zYl n R)
def z9B (r:List Int×Int):AV:= .tup [.s (.sl y8 r.1),.s (.int .i64 r.2)]
theorem z99 (R:List zAJ) (k:Nat):imL R (k+1)=imL R k++[zAV R k]:=by
 unfold imL;rw [List.range_succ,zbo];rfl
theorem zJ1 (R:List zAJ) (k:Nat):(imL R k).length=k:=by unfold imL;rw [yV,zAD]
theorem z1S {n:Int} {R:List zAJ} {k:Nat} (hn: ¬ (n<0\/n>4096)) (hk:(k:Int)<n) (h:zAV R k<0):zYl n R=3:=by
 unfold zYl;rw [if_neg hn,if_neg];intro c;have:=zJ.1 c (zAV R k) (yC.2 ⟨k,zV.2 (by omega),rfl⟩);rw [zP] at this;omega
theorem zYL {n:Int} {R:List zAJ} (hn: ¬ (n<0\/n>4096)) (h: ∀ k,k<n.toNat->0<=zAV R k):zYl n R=0:=by
 unfold zYl;rw [if_neg hn,if_pos];refine zJ.2 fun v hv=> ?_;obtain ⟨k,hk,rfl⟩:=yC.1 hv;rw [zP];exact h k (zV.1 hk)
def zYu (n:Int) (R:List zAJ):Spec Nat where
 inv k:=k<=n.toNat/\∀ j,j<k->0<=zAV R j
 live k:=[(16,.s (.int .i64 k)),(6,.s (.own 1 0 (imL R k).length))]
 keep:=[1,15]
 heap k:=[(1,.row y8 3 (imL R k))]
 keepH:=[0]
 mu k:=n.toNat - k
attribute [local irreducible] zYl imL zNy
theorem zZB (n:Int) (R:List zAJ) (hR:okR R):zAG ⟨tyL,[(66,z60)],[]⟩ f32 [y8.av n,(ETy.sl zG3).av R] (fun r=>r=z9B (zNy n R)):=by
 repeat' (conv=>whnf
          first|done|refine qy ?_|refine qG fun _=> ?_|refine qw (fun _=> ?_) (fun _=> ?_)|apply qt|refine qi (fun _=> ?_) (fun _=> ?_)|(refine zaB 5 rfl (zYu n R) (0) ?_ ?_ ?_ fun k hk=> ?_)|with_reducible refine zaA (zYu _ _) (k+1) ?_ ?_ ?_ ?_|refine qu ?_|refine qv ?_ ?_|exact zO)
 all_goals try first|refine qz ?_|apply qz5
 all_goals try simp only [qn0,z7,zX,ETy.dflt,Int.reduceToNat,Int.reduceAdd,Int.reduceSub,Int.reduceNeg,Nat.reduceAdd,zYu] at *
 all_goals have e2: ∀ e,zYl n R=e->e≠0->z9B (zNy n R)= .tup [.s (.sl y8 []),.s (.int .i64 e)]:=fun e h he=>by
            unfold zNy;rw [if_neg (by rw [h];exact he),h];rfl
 ·refine y9.intro (e2 2 ?_ (by decide)).symm;unfold zYl;exact if_pos (.inl (by assumption))
 ·refine y9.intro (e2 2 ?_ (by decide)).symm;unfold zYl;exact if_pos (.inr (by assumption))
 ·exact yJ.intro ⟨zbH _,fun j hj=>absurd hj (Nat.not_lt_zero _)⟩
 ·exact zJ1 R 0
 ·unfold imL;rfl
 ·refine yJ.intro ⟨?_,hR⟩;omega
 ·exact y9.intro (e2 3 (z1S (by omega) (by assumption) (by assumption)) (by decide)).symm
 ·have:=zJ1 R k;refine yJ.intro ?_;omega
 ·refine yJ.intro ⟨by omega,fun j hj=> ?_⟩
  by_cases e:j=k
  ·subst e;omega
  ·exact hk.2 j (by omega)
 ·rw [zJ1,zJ1]
 ·exact z99 R k
 ·refine yJ.intro ?_;omega
 ·have e:k=n.toNat:=by omega
  subst e;have h0:=zYL (n:=n) (R:=R) (by omega) hk.2;refine y9.intro ?_;unfold zNy;rw [if_pos h0];rfl
def zU8:List AV->Option Res:=zCr y8 (.sl zG3) (fun (n:Int) (R:List zAJ)=>some (none,some (okR R),z9B (zNy n R)))
theorem zZo:qM prog 32 zU8:=mkR (jD fun n R r h=>by
 cases h;exact fb (fn:=[(66,z60)]) ⟨z2u,trivial⟩ func32 fun _ h=>zZB n R h) func32
end S1
namespace S1
def ofV (m:NxM) (i:Int) (L:List Int):NxM:=L.foldl (fun m v=>zAB (.int .i64) m v i) m
def ofK (Ls:List (List Int)):Nat->NxM
 | 0=>[]
 | i+1=>ofV (ofK Ls i) i (Ls.getD i [])
def lfK (Ls:List (List Int)) (i:Nat):List Int:=(Ls.take i).map fun L=>(L.length:Int) - 3
theorem zUZ: ∀ (L:List Int) (m:NxM) (i u:Int),jS y8 (ofV m i L) u=if u∈L then some i else jS y8 m u
 | [],m,i,u=>by rw [if_neg (by simp)];rfl
 | a ::r,m,i,u=>by
   show jS y8 (ofV (zAB y8 m a i) i r) u=_;rw [zUZ r]
   by_cases h:u∈r
   ·rw [if_pos h,if_pos (zQ _ h)]
   ·rw [if_neg h]
    by_cases e:a=u
    ·subst e;rw [zAT,if_pos (zY ..)]
    ·rw [zA4 _ e,if_neg];intro k;rcases zT.1 k with k|k
     ·exact e k.symm
     ·exact h k
theorem zMA {Ls:List (List Int)} (hn:Ls.flatten.Nodup) {i:Nat} {u:Int} (hu:u∈Ls.getD i []): ∀ k,i<k->k<=Ls.length->jS y8 (ofK Ls k) u=some (i:Int)
 | 0,h,_=>absurd h (Nat.not_lt_zero _)
 | k +1,h,hk=>by
   show jS y8 (ofV (ofK Ls k) k (Ls.getD k [])) u=_;rw [zUZ]
   by_cases e:i=k
   ·subst e;rw [if_pos hu]
   ·rw [if_neg,zMA hn hu k (by omega) (by omega)];intro hk2
    -- u lies in two loops
    have hi:i<Ls.length:=by omega
    have hkl:k<Ls.length:=by omega
    have gi:Ls.getD i []=Ls[i]:=by rw [zR,zG hi];rfl
    have gk:Ls.getD k []=Ls[k]:=by rw [zR,zG hkl];rfl
    rw [gi] at hu;rw [gk] at hk2;have hp:=flat_pair hn;have:=List.pairwise_iff_getElem.1 hp;rcases Nat.lt_or_gt_of_ne e with q|q
    ·exact this i k hi hkl q u hu hk2
    ·exact this k i hkl hi q u hk2 hu
where
 flat_pair: ∀ {Ls:List (List Int)},Ls.flatten.Nodup->Ls.Pairwise (fun a b=> ∀ x∈a,x∉b)
  | [],_=>List.Pairwise.nil
  | a::r,hn=>by
    rw [List.flatten_cons,List.nodup_append] at hn;exact List.pairwise_cons.2 ⟨fun b hb x hx hxb=>hn.2.2 x hx x (List.mem_flatten.2 ⟨b,hb,hxb⟩) rfl,flat_pair hn.2.1⟩
open Classical in
noncomputable def z6B (x:yI.T) (C:List (Int×Int)) (i:Nat):Nat:=(C.filter fun c=>decide (zJJ x c/\c.1∈(qW x).getD i [])).length
structure zFA (x:yI.T) (l:List (Int×Int)) (k:Nat) (u:ReM) (f:List Int):Prop where
 used: ∀ n,had u n=true↔∃ c∈chK x l k,zHO x c n
 len:f.length=(qW x).length
 left: ∀ i,i<(qW x).length->f.getD i 0=((qW x).getD i []).length - 3 - (z6B x (chK x l k) i:Int)
theorem z27 {x:yI.T} (g:Full x) {w u:Int} (h:bE x w u):z1m x u=w:=by
 have key: ∀ l:List (Int×Int),(∀ e∈l,bE x e.1 e.2)->(w,u)∈l->zTY u l=w:=fun l=>by
  induction l with
  | nil=>intro _ k;cases k
  | cons e r ih =>
    intro ha k;unfold zTY;split
    ·rename_i h2;have:=ha e (zY ..);rw [h2] at this;exact zWo g this h
    ·rename_i h2;refine ih (fun e he=>ha e (zQ _ he)) ((zT.1 k).resolve_left fun q=>h2 ?_);rw [<- q]
 exact key _ (fun e he=>zGJ.1 he) (zGJ.2 h)
theorem z2l {x:yI.T} {w u:Int} (h:z1m x u=w) (hw:0<=w):bE x w u:=by
 have key: ∀ l:List (Int×Int),(∀ e∈l,bE x e.1 e.2)->zTY u l=w->bE x w u:=fun l=>by
  induction l with
  | nil=>intro _ k;have:(-1:Int)=w:=k;omega
  | cons e r ih =>
    intro ha k;unfold zTY at k;split at k
    ·rename_i h2;have:=ha e (zY ..);rw [h2,k] at this;exact this
    ·exact ih (fun e he=>ha e (zQ _ he)) k
 exact key _ (fun e he=>zGJ.1 he) h
section
variable {x:yI.T} {l:List (Int×Int)} {k:Nat} {u:ReM} {f:List Int}
theorem z3n:zFA x l 0 [] (lfK (qW x) (qW x).length):=by
 refine ⟨fun n=>⟨fun h=>(by cases h),fun ⟨c,h,_⟩=>(by cases h)⟩,?_,fun i hi=> ?_⟩
 ·unfold lfK;rw [yV,zbK]
 ·unfold lfK;rw [zbK,zR,zbf,zG hi,zR,zG hi];have e0:z6B x (chK x l 0) i=0:=rfl;rw [e0];simp
theorem z8s (h:zFA x l k u f) (c: ¬ okE x (chK x l k) (l.getD k (0,0))=true):zFA x l (k+1) u f:=by
 have e:=zZW c;exact ⟨by rw [e];exact h.used,h.len,by rw [e];exact h.left⟩
theorem z34 (g:Full x) (hs:jV (InN x.1.1) x.1.2) (h:zFA x l k u f) (hw:zDV x (l.getD k (0,0)).1 (l.getD k (0,0)).2=0) (hu: ∀ p∈zCt x (l.getD k (0,0)),had u p.1=false):okE x (chK x l k) (l.getD k (0,0))=true:=by
 refine (zJH g hs).2 ⟨(zKH g hs).1 hw,fun c hc t ht a b=> ?_⟩;obtain ⟨j,hj,rfl⟩:=zAO ht;obtain ⟨p,hp,e⟩:=yC.1 ((zFt g).2 (⟨j,hj,rfl,b⟩:zHO x (l.getD k (0,0)) j));have:=hu p hp;rw [show p.1=(j:Int) from e,(h.used j).2 ⟨c,hc,j,hj,rfl,a⟩] at this;cases this
theorem z5I (g:Full x) (hs:jV (InN x.1.1) x.1.2) (h:zFA x l k u f) {p:(ETy.int .i64).T×ETy.bool.T} (hp:p∈zCt x (l.getD k (0,0))) (hu:had u p.1=true): ¬ okE x (chK x l k) (l.getD k (0,0))=true:=by
 intro c;obtain ⟨_,h2⟩:=(zJH g hs).1 c;obtain ⟨d,hd,j,hj,e,a⟩:=(h.used p.1).1 hu;obtain ⟨i,hi,e2,b⟩:=(zFt g).1 (yC.2 ⟨p,hp,rfl⟩);have:i=j:=by omega
 subst this;exact h2 d hd _ (qI hi) a b
theorem z7d (c: ¬ zDV x (l.getD k (0,0)).1 (l.getD k (0,0)).2=0): ¬ okE x (chK x l k) (l.getD k (0,0))=true:=fun h=>by
 unfold okE at h;rw [zC,zP] at h;exact c h.1
theorem zYn (g:Full x) (h:zFA x l k u f) (c:okE x (chK x l k) (l.getD k (0,0))=true) {pre:IBM} (hp: ∀ p,p∈pre↔p∈zCt x (l.getD k (0,0))) (n:Int):had (zRZ u (pre.map (·.1))) n=true↔∃ c∈chK x l (k+1),zHO x c n:=by
 unfold zRZ;rw [zLM,h.used,zNJ c]
 have e1:n∈pre.map (·.1)↔zHO x (l.getD k (0,0)) n:=by
  rw [<- zFt g];show _↔n∈(zCt x (l.getD k (0,0))).map Prod.fst;rw [yC,yC];exact ⟨fun ⟨p,a,b⟩=>⟨p,(hp p).1 a,b⟩,fun ⟨p,a,b⟩=>⟨p,(hp p).2 a,b⟩⟩
 rw [e1];constructor
 ·rintro (⟨d,a,b⟩|a)
  ·exact ⟨d,zb9 _ a,b⟩
  ·exact ⟨_,zbg _ (zF.2 rfl),a⟩
 ·rintro ⟨d,a,b⟩;rcases yD.1 a with a|a
  ·exact .inl ⟨d,a,b⟩
  ·rw [zF.1 a] at b;exact .inr b
open Classical in
theorem z2p (C:List (Int×Int)) (e:Int×Int) (i:Nat):z6B x (C++[e]) i=z6B x C i+(if zJJ x e/\e.1∈(qW x).getD i [] then 1 else 0):=by
 unfold z6B;rw [zbx,zN]
 congr 1
 by_cases q:zJJ x e/\e.1∈(qW x).getD i []
 ·rw [if_pos q,zbP (by rw [zP];exact q)];rfl
 ·rw [if_neg q,zb3 (by rw [zP];exact q)];rfl
theorem z81 (g:Full x) (h:zFA x l k u f) (c:okE x (chK x l k) (l.getD k (0,0))=true) (hb: ¬ zJJ x (l.getD k (0,0))) {pre:IBM} (hp: ∀ p,p∈pre↔p∈zCt x (l.getD k (0,0))):zFA x l (k+1) (zRZ u (pre.map (·.1))) f:=by
 refine ⟨zYn g h c hp,h.len,fun i hi=> ?_⟩;rw [h.left i hi,zNJ c,z2p,if_neg (fun q=>hb q.1)];rfl
theorem z8D (g:Full x) {e:Int×Int} (h:zJJ x e): ∃ i,i<(qW x).length/\e.1∈(qW x).getD i []/\jS y8 (ofK (qW x) (qW x).length) e.1=some (i:Int)/\zCA x ((qW x).getD i []):=by
 have hw: ∃ w,bE x w e.1:=by
  rcases h with k|k
  ·exact zCo g k
  ·exact ⟨_,k⟩
 obtain ⟨L,hL,hu⟩:=List.mem_flatten.1 ((zTs g).2 hw);obtain ⟨i,hi,rfl⟩:=yG.1 hL;have gi:(qW x).getD i []=(qW x)[i]:=by rw [zR,zG hi];rfl
 have lp:=zJa g;refine ⟨i,hi,by rw [gi];exact hu,zMA lp.nd (by rw [gi];exact hu) _ hi (zI _),by rw [gi];exact lp.ok _ hL⟩
theorem z3Z (g:Full x) (hs:jV (InN x.1.1) x.1.2) (h:zFA x l k u f) (c:okE x (chK x l k) (l.getD k (0,0))=true) (hb:zJJ x (l.getD k (0,0))) {i:Nat} (hi:i<(qW x).length) (hm:(l.getD k (0,0)).1∈(qW x).getD i []) (hL:zCA x ((qW x).getD i [])):1<=f.getD i 0:=by
 classical
 obtain ⟨h1,h2⟩:=(zJH g hs).1 c;have hbat:=zLL g hs l k
 have:=z7b g hs hL hb h1 hm (D:=(chK x l k).filter fun c=>decide (zJJ x c/\c.1∈(qW x).getD i [])) (fun d hd=>by
  obtain ⟨a,b⟩:=zb5.1 hd;rw [zP] at b
  exact ⟨b.1,hbat.free d a,b.2⟩) (hbat.apart.sublist List.filter_sublist) fun d hd=>h2 d (zb5.1 hd).1
 rw [h.left i hi];unfold z6B;have e: ∀ (p q:Int×Int->Bool),(∀ c,p c=q c)->((chK x l k).filter p).length=((chK x l k).filter q).length:=fun p q h=>by rw [show p=q from funext h]
 rw [e _ (fun c=>decide (zJJ x c/\c.1∈(qW x).getD i [])) (fun c=>by congr)];omega
theorem z7R (g:Full x) (h:zFA x l k u f) (c:okE x (chK x l k) (l.getD k (0,0))=true) (hb:zJJ x (l.getD k (0,0))) {i:Nat} (hi:i<(qW x).length) (hm:(l.getD k (0,0)).1∈(qW x).getD i []) {pre:IBM} (hp: ∀ p,p∈pre↔p∈zCt x (l.getD k (0,0))) :
 zFA x l (k+1) (zRZ u (pre.map (·.1))) (f.set i (f.getD i 0 - 1)):=by
 refine ⟨zYn g h c hp,by rw [zbY];exact h.len,fun j hj=> ?_⟩;rw [zNJ c,z2p,zR,zbQ]
 by_cases e:i=j
 ·subst e;rw [if_pos rfl,if_pos (by rw [h.len];exact hi),if_pos ⟨hb,hm⟩];show f.getD i 0 - 1=_;rw [h.left i hi];omega
 ·rw [if_neg e,if_neg]
  ·have:=h.left j hj;rw [zR] at this;rw [this];rfl
  ·rintro ⟨_,hm2⟩;have lp:=(zJa g).nd;have a:=zMA lp hm _ hi (zI _);have b:=zMA lp hm2 _ hj (zI _);rw [a] at b;have:(i:Int)=j:=Option.some.inj b;omega
theorem z24 (g:Full x) (hs:jV (InN x.1.1) x.1.2) {e:Int×Int} (hw:zDV x e.1 e.2=0):(z1m x e.1=e.2\/z1m x e.2=e.1)↔zJJ x e:=by
 obtain ⟨t,ht,t1,t2⟩:=((zKH g hs).1 hw).near;have i1:=hs.ent t ht _ t1;have i2:=hs.ent t ht _ t2;constructor
 ·rintro (h|h)
  ·exact .inr (z2l h i2.1)
  ·exact .inl (z2l h i1.1)
 ·rintro (h|h)
  ·exact .inr (z27 g h)
  ·exact .inl (z27 g h)
theorem z0f (g:Full x) {L:List Int} (hL:zCA x L):L.length<=4096:=by
 have:=zBx L ((List.range 4096).map fun (j:Nat)=>(j:Int)) hL.nd fun v hv=>by
  obtain ⟨w,hw⟩:=hL.bord hv;have h1:=(zJf g hw).2.1;have h2: @LE.le Int _ x.1.1 4096:=g.fit.2.1;exact yC.2 ⟨v.toNat,zV.2 (by omega),by omega⟩
 rwa [yV,zAD] at this
theorem zLR (Ls:List (List Int)) (i:Nat) (h:i<=Ls.length):(lfK Ls i).length=i:=by unfold lfK;rw [yV,qZ];omega
theorem zZX (g:Full x) (hs:jV (InN x.1.1) x.1.2) (c:okE x (chK x l k) (l.getD k (0,0))=true) (hb:zJJ x (l.getD k (0,0))) (h:zFA x l k u f) :
 ∃ i:Nat,(jS y8 (ofK (qW x) (qW x).length) (l.getD k (0,0)).1).getD 0=(i:Int)/\i<(lfK (qW x) (qW x).length).length/\1<=f.getD i 0/\f.getD i 0<=4096/\
   ∀ pre:IBM,(∀ p,p∈pre↔p∈zCt x (l.getD k (0,0)))->zFA x l (k+1) (zRZ u (pre.map (·.1))) (f.set i (f.getD i 0 - 1)):=by
 obtain ⟨i,hi,hm,hg,hL⟩:=z8D g hb;have hr:=z3Z g hs h c hb hi hm hL;have hl:=z0f g hL;refine ⟨i,by rw [hg];rfl,by rw [zLR _ _ (zI _)];exact hi,hr,?_,fun pre hp=>z7R g h c hb hi hm hp⟩;rw [h.left i hi];omega
def ixL (x:yI.T) (v:Int):Nat:=Int.toNat ((jS y8 (ofK (qW x) (qW x).length) v).getD 0)
theorem zWw (g:Full x) (hs:jV (InN x.1.1) x.1.2) (c:okE x (chK x l k) (l.getD k (0,0))=true) (hb:zJJ x (l.getD k (0,0))) (h:zFA x l k u f) :
 (0<=(jS y8 (ofK (qW x) (qW x).length) (l.getD k (0,0)).1).getD 0/\(jS y8 (ofK (qW x) (qW x).length) (l.getD k (0,0)).1).getD 0<((lfK (qW x) (qW x).length).length:Int))/\
 yP (f.getD (ixL x (l.getD k (0,0)).1) 0 - 1)/\¬ f.getD (ixL x (l.getD k (0,0)).1) 0<1/\
 ∀ pre:IBM,(∀ p,p∈pre↔p∈zCt x (l.getD k (0,0)))->zFA x l (k+1) (zRZ u (pre.map (·.1))) (f.set (ixL x (l.getD k (0,0)).1) (f.getD (ixL x (l.getD k (0,0)).1) 0 - 1)):=by
 obtain ⟨i,h1,h2,h3,h4,h5⟩:=zZX g hs c hb h;have e:ixL x (l.getD k (0,0)).1=i:=by unfold ixL;rw [h1];rfl
 rw [e,h1];exact ⟨⟨show (0:Int)<=(i:Int) by omega,show (i:Int)<((lfK (qW x) (qW x).length).length:Int) by omega⟩,by unfold yP;omega,by omega,h5⟩
theorem zWZ (g:Full x):(qW x).length<=4096:=by
 have h1:=zPX x x.1.1.toNat;have h2: @LE.le Int _ x.1.1 4096:=g.fit.2.1;have h3:(qW x).length<=x.1.1.toNat:=h1;omega
theorem z9c {m:NxM} {i:Int} {L:List Int} {j:Nat} (hj:j<L.length):ofV m i (L.take (j+1))=zAB y8 (ofV m i (L.take j)) (L.getD j 0) i:=by
 unfold ofV;rw [yB hj,zbm,zR,zG hj];rfl
theorem z9O {Ls:List (List Int)} {i:Nat} (h:i<Ls.length):lfK Ls (i+1)=lfK Ls i++[((Ls.getD i []).length:Int) - 3]:=by
 unfold lfK;rw [yB h,zbo,zR,zG h];rfl
theorem zYR (m:ReM) (pre:IBM) (e:(ETy.int .i64).T×ETy.bool.T):zRZ m ((pre++[e]).map (·.1))=zAB y8 (zRZ m (pre.map (·.1))) e.1 true:=by
 unfold zRZ;rw [zbo,zbm];rfl
end
end S1
namespace Go.Vm
section
variable {T:Tab} {SQ:zDE} {st:St} {K:Exit->St->Prop} {a b c:Code}
structure z6x (T:Tab) (SQ:zDE) (b:Code) (K:Exit->St->Prop) (e:Exit) (t:St):Prop where
 out:match e with
  | .normal=>qC T SQ b t K
  | e=>K e t
structure z2d (id:Nat) (K:Exit->St->Prop) (e:Exit) (t:St):Prop where
 out:match e with
  | .exit i=>(match Nat.beq i id with|true=>K .normal t|false=>K (.exit i) t)
  | e=>K e t
structure z8K (K:Exit->St->Prop) (e:Exit) (t:St):Prop where
 out:match e with
  | .goto _=>False
  | e=>K e t
structure zPP {X:Type} (S:Spec X) (st:St) (x:X) (K:Exit->St->Prop) (e:Exit) (t:St):Prop where
 out:match e with
  | .normal=> ∃ y,S.inv y/\zOs t (S.head st y)/\S.mu y<S.mu x
  | e=>K e t
structure z0W (K:Exit->St->Prop) (e:Exit) (t:St):Prop where
 out:K e t
theorem zRr (h:qC T SQ b st K):z6x T SQ b K .normal st:=⟨h⟩
theorem zSR {i:Nat} (h:K (.exit i) st):z6x T SQ b K (.exit i) st:=⟨h⟩
theorem zR2 (h:K .ret st):z6x T SQ b K .ret st:=⟨h⟩
theorem zRJ {id:Nat} (h:K .normal st):z2d id K .normal st:=⟨h⟩
theorem z2Z {id i:Nat} (e:Nat.beq i id=true) (h:K .normal st):z2d id K (.exit i) st:=⟨by show (match Nat.beq i id with|true=>K .normal st|false=>K (.exit i) st);rw [e];exact h⟩
theorem z1y {id i:Nat} (e:Nat.beq i id=false) (h:K (.exit i) st):z2d id K (.exit i) st:=⟨by show (match Nat.beq i id with|true=>K .normal st|false=>K (.exit i) st);rw [e];exact h⟩
theorem z1w {id:Nat} (h:K .ret st):z2d id K .ret st:=⟨h⟩
theorem z2e (h:K .normal st):z8K K .normal st:=⟨h⟩
theorem z2i (h:K .ret st):z8K K .ret st:=⟨h⟩
theorem zMT {X:Type} {S:Spec X} {x:X} {t:St} (h: ∃ y,S.inv y/\zOs t (S.head st y)/\S.mu y<S.mu x):zPP S st x K .normal t:=⟨h⟩
theorem zM7 {X:Type} {S:Spec X} {x:X} {t:St} {i:Nat} (h:K (.exit i) t):zPP S st x K (.exit i) t:=⟨h⟩
theorem zXM {X:Type} {S:Spec X} {x:X} {t:St} (h:K .ret t):zPP S st x K .ret t:=⟨h⟩
theorem zHd {e:Exit} (h:K e st):z0W K e st:=⟨h⟩
theorem zY4:z0W K=K:=funext fun e=>funext fun s=>propext ⟨fun h=>h.out,fun h=>⟨h⟩⟩
theorem zN7 {s:St} (h:s.forceAll (fun h=>zA8 T c h (z0W K))):s.forceAll (fun h=>zA8 T c h K):=by rw [zY4] at h;exact h
theorem z7K {SQ:zDE} {fn:Func} {args:List AV} {R:AV->Prop} (hb:fn.body=some c) (h:qC T SQ c (St.init args) (z0W (post T fn R))):zH7 T SQ fn args R:=by
 rw [zY4] at h;unfold zH7;rw [hb];show (St.init args).forceAll _;rw [St.forceAll_eq];exact h
theorem z6c (hr:z1B a b=none) (h:qC T SQ a st (z6x T SQ b K)):qC T SQ (.seq a b) st K:=by
 unfold qC;rw [hr];exact (congrArg (qC T SQ a st) (funext fun e=>funext fun s=>propext (by cases e<;>exact ⟨fun h=>⟨h⟩,fun h=>h.out⟩)):qC T SQ a st _=qC T SQ a st (z6x T SQ b K)).mpr h
theorem z7c {r:RM} (hr:z1B a b=some r) (h:st.forceAll fun st=>z9J T r st K):qC T SQ (.seq a b) st K:=by
 rw [St.forceAll_eq] at h;unfold qC;rw [hr];exact h
theorem zY1 {id:Nat} (h:qC T SQ c st (z2d id K)):qC T SQ (.block id c) st K:=by
 unfold qC;exact (congrArg (qC T SQ c st) (funext fun e=>funext fun s=>propext (by cases e<;>exact ⟨fun h=>⟨h⟩,fun h=>h.out⟩)):qC T SQ c st _=qC T SQ c st (z2d id K)).mpr h
theorem zWS (h:qC T SQ c st (z8K K)):qC T SQ (.scope c) st K:=by
 unfold qC;exact (congrArg (qC T SQ c st) (funext fun e=>funext fun s=>propext (by cases e<;>exact ⟨fun h=>⟨h⟩,fun h=>h.out⟩)):qC T SQ c st _=qC T SQ c st (z8K K)).mpr h
theorem zSD {i:Nat} {o:Array Oper} {d:Bool} (h:st.forceAll fun st=>zA8 T (.region i o d) st K):qC T SQ (.region i o d) st K:=by
 rw [St.forceAll_eq] at h;unfold qC;exact h
theorem z2I (h:K .normal st):qC T SQ .skip st K:=h
theorem zXb {l:Nat} (h:K .normal st):qC T SQ (.label l) st K:=h
theorem z2P {i:Nat} (h:K (.exit i) st):qC T SQ (.exit i) st K:=h
theorem z7m (h:K .ret st):qC T SQ .ret st K:=h
theorem z2a {x:Operand} (hr:(zB1 a|| zB1 b)=false) (h:st.forceAll fun st=>zA8 T (.cond x a b) st K):qC T SQ (.cond x a b) st K:=by
 rw [St.forceAll_eq] at h;unfold qC;rw [hr];exact h
theorem zVt {x:Operand} (hr:(zB1 a|| zB1 b)=true) (h:st.forceAll fun st=>match y7 st.env x with
 | .s (.bool t)=>BIf t (qC T SQ a st K) (qC T SQ b st K)
 | _=>False):qC T SQ (.cond x a b) st K:=by
 rw [St.forceAll_eq] at h;unfold qC;rw [hr];exact h
theorem z79 (hr:zB1 c=true) (X:Type) (S:Spec X) (x0:X) (hi:S.inv x0) (hl:zOs st (S.head st x0))
 (h: ∀ x,S.inv x->qC T SQ c (S.head st x) (zPP S st x K)):qC T SQ (.loop c) st K:=by
 unfold qC;rw [hr];refine ⟨X,S,⟨x0,hi,hl⟩,fun x hx=> ?_⟩;rw [St.forceAll_eq];exact (congrArg (qC T SQ c (S.head st x)) (funext fun e=>funext fun s=>propext (by cases e<;>exact ⟨fun h=>⟨h⟩,fun h=>h.out⟩)):qC T SQ c (S.head st x) _=qC T SQ c (S.head st x) (zPP S st x K)).mpr (h x hx)
end
end Go.Vm
namespace S1
def zY2:List AV->St->(AV->St->Prop)->Prop:=zR3 ⟨tyL,[(45,zUB)],[]⟩ f62
theorem zY3 : zJM prog 62 zY2 ∧ ∃ fn, Tryz.prog.funcs[62]? = some fn ∧ (fn.name == "runtime.NumGoroutine") = false ∧ fn.body.isNone = false :=
 ⟨zOG (yN (fn:=[(45,zUB)]) (fr:=[]) ⟨zZF,trivial⟩ trivial) func62 rfl (by kernel_rfl),_,func62,by kernel_rfl,by kernel_rfl⟩
def zUn (Ls:List (List Int)):Spec Nat where
 inv i:=i<=Ls.length
 live i:=[(12,.s (.int .i64 i)),(3,.s (.own 2 0 (lfK Ls i).length))]
 keep:=[2,10,11]
 heap i:=[(3,.map y8 y8 (ofK Ls i)),(2,.row y8 3 (lfK Ls i))]
 keepH:=[0,1]
 mu i:=Ls.length - i
def zUd (Ls:List (List Int)) (i:Nat):Spec Nat where
 inv j:=j<=(Ls.getD i []).length
 live j:=[(19,.s (.int .i64 j))]
 keep:=[2,3,4,5,10,11,12,17,18]
 heap j:=[(3,.map y8 y8 (ofV (ofK Ls i) i ((Ls.getD i []).take j)))]
 keepH:=[0,1,2]
 mu j:=(Ls.getD i []).length - j
def zT9 (x:yI.T) (l:List (Int×Int)):Spec (Nat×ReM×List Int) where
 inv y:=y.1<=l.length/\zFA x l y.1 y.2.1 y.2.2
 live y:=[(24,.s (.int .i64 y.1)),(8,.s (.own 5 0 (chK x l y.1).length))]
 keep:=[0,5,6,7,22,23]
 heap y:=[(4,.map y8 .bool y.2.1),(2,.row y8 3 y.2.2),(5,.row .arr2 33 (chK x l y.1))]
 keepH:=[0,3]
 mu y:=l.length - y.1
def zWt (u:ReM):Spec IBM where
 inv pre:= ∀ p∈pre,had u p.1=false
 live _:=[]
 keep:=[0,5,6,7,8,10,11,22,23,24,39]
 heap _:=[]
 keepH:=[0,2,3,4,5,6]
 mu _:=0
def zWO (u:ReM):Spec IBM where
 inv _:=True
 live _:=[]
 keep:=[0,5,6,7,8,10,11,22,23,24,81]
 heap pre:=[(4,.map y8 .bool (zRZ u (pre.map (·.1))))]
 keepH:=[0,2,3,5,6]
 mu _:=0
attribute [local irreducible] chK zDV zCt z1m zRZ ofK lfK ofV qW
theorem zYQ (x:yI.T) (l:List (Int×Int)) (g:Full x) (hs:jV (InN x.1.1) x.1.2) (hl9:l.length<=100000):zH7 ⟨tyL,[(27,z7M),(57,zMW),(63,zYk)],[(62,.run zY2)]⟩ z8R Tryz.f22 [(ETy.pt yI).av (some x),(ETy.sl .arr2).av l] (fun r=>r= .s (.sl .arr2 (zAh x l))):=by
 refine z7K rfl ?_
 repeat' (first
           | ((with_reducible show qC _ _ (Code.seq _ _) _ _);first|refine z6c rfl ?_|refine z7c rfl ?_)
           | with_reducible refine zY1 ?_
           | with_reducible refine zWS ?_
           | with_reducible refine zSD ?_
           | with_reducible refine z2I ?_
           | with_reducible refine zXb ?_
           | with_reducible refine z2P ?_
           | with_reducible refine z7m ?_
           | ((with_reducible show qC _ _ (Code.cond _ _ _) _ _);first|refine z2a rfl ?_|refine zVt rfl ?_)
           | ((with_reducible show qC _ _ (Code.loop _) _ _);refine z79 rfl (Nat×ReM×List Int) (zT9 x l) ((0,[],lfK (qW x) (qW x).length)) (yJ.out ?_) (zA ?_ (zA ?_ rfl)) (fun y hy=> ?_))
           | with_reducible refine zRr ?_
           | with_reducible refine zSR ?_
           | with_reducible refine zR2 ?_
           | with_reducible refine zRJ ?_
           | ((with_reducible show z2d _ _ (Exit.exit _) _);first|refine z2Z rfl ?_|refine z1y rfl ?_)
           | with_reducible refine z1w ?_
           | with_reducible refine z2e ?_
           | with_reducible refine z2i ?_
           | with_reducible refine zMT ?_
           | with_reducible refine zM7 ?_
           | with_reducible refine zXM ?_
           | with_reducible refine zHd ?_
           | (conv=>whnf
              first
           | done
           | refine qN ?_
           | apply qH
           | refine qG fun _=> ?_
           | apply qB
           | apply qa
           | apply qo
           | refine qe (fun _=> ?_) (fun _=> ?_)
           | refine qn (fun _=> ?_) (fun _=> ?_)
           | refine qd (fun _=> ?_) (fun _=> ?_)
           | apply qt
           | refine qi (fun _=> ?_) (fun _=> ?_)
           | with_reducible refine zRr ?_
           | with_reducible refine zSR ?_
           | with_reducible refine zR2 ?_
           | with_reducible refine zRJ ?_
           | with_reducible refine zMT ?_
           | with_reducible refine zM7 ?_
           | with_reducible refine zHd ?_
           | ((with_reducible show (∃ y,And (Spec.inv (zT9 _ _) y) _));refine zB (y.1+1,_,_) (zA (yJ.out ?_) (zA (zA ?_ (zA (zA rfl (zA rfl ?_)) rfl)) (yJ.out ?_))))
           | refine (fun (XF:Array Value)=> ?_)
           | (refine zdg 3 rfl ?_;refine Or.inr (zB (Nat) (zB (zUn (qW x)) (zA (zB (0) (zA (yJ.out ?_) (zA ?_ (zA ?_ rfl)))) (fun i hi=>zN7 ?_)))))
           | with_reducible refine zaA (zUn _) (i+1) ?_ ?_ ?_ ?_
           | (refine zdg 6 rfl ?_;refine Or.inr (zB (Nat) (zB (zUd (qW x) i) (zA (zB (0) (zA (yJ.out ?_) (zA ?_ (zA ?_ rfl)))) (fun j hj=>zN7 ?_)))))
           | with_reducible refine zaA (zUd _ _) (j+1) ?_ ?_ ?_ ?_
           | refine (fun (rIt:Nat)=> ?_)
           | refine z8H.intro (it:=39) (zB (zWt y.2.1) (zA (zA (yJ.out ?_) (zA ?_ (zA ?_ rfl))) (zA (fun preu eu heu=>zA rfl ?_) (fun preu hpu=>zA rfl ?_))))
           | ((with_reducible show (And (Spec.inv (zWt y.2.1) _) _));refine zA (yJ.out ?_) (zA ?_ (zA ?_ rfl)))
           | refine (fun (rIt:Nat)=> ?_)
           | refine z8H.intro (it:=81) (zB (zWO y.2.1) (zA (zA (yJ.out ?_) (zA ?_ (zA ?_ rfl))) (zA (fun prew ew hew=>zA rfl ?_) (fun prew hpw=>zA rfl ?_))))
           | ((with_reducible show (And (Spec.inv (zWO y.2.1) _) _));refine zA (yJ.out ?_) (zA ?_ (zA ?_ rfl)))
           | refine zA rfl ?_
           | apply qE
           | apply qO
           | exact zO
           | apply qq
           | apply qs
           | refine qK (by kernel_rfl) ?_
           | apply qr))
 all_goals try first|refine qz ?_|apply qz5
 all_goals try simp only [qn0,z7,zX,ETy.dflt,Int.reduceToNat,Int.reduceAdd,Int.reduceSub,Int.reduceNeg,Nat.reduceAdd,zUn,zUd,zT9,zWt,zWO] at *
 all_goals have hLl:=zWZ g
 all_goals try simp only [show z2U (some x)=qW x from rfl] at *
 all_goals try exact yJ.intro (fun y h=>by cases h;exact g)
 all_goals try exact yJ.intro (fun y h=>by cases h;exact g.toGood)
 all_goals try exact yJ.intro g.toGood
 all_goals try exact yJ.intro trivial
 all_goals try exact yJ.intro (fun p h=>by cases h)
 all_goals try (refine yJ.intro ?_;omega)
 all_goals try first
  | (unfold lfK;rfl)
  | (unfold ofK;rfl)
  | (unfold chK;rfl)
  | (rw [List.take_zero];unfold ofV;rfl)
  | (rw [zcF];unfold zRZ;rfl)
  | exact zYR _ _ _
  | exact z9c (by omega)
  | exact z9O (by omega)
  | (rw [zLR _ _ (by omega),zLR _ _ (by omega)];done)
 all_goals try (have hlf:=zLR (qW x) i (by omega);refine yJ.intro ?_;omega)
 all_goals try
  have ej:j=((qW x).getD i []).length:=by omega
  subst ej;rw [zbK];conv=>lhs;unfold ofK
  done
 all_goals have ei:i=(qW x).length:=by omega
 all_goals subst ei
 all_goals try exact yJ.intro ⟨zbH _,z3n⟩
 all_goals try rfl
 all_goals try
  have hn : ¬ okE x (chK x l y.1) (l.getD y.1 (0,0))=true:=by
            first|exact z7d (by assumption)|exact z5I g hs hy.2 heu.2.2.2.1 (by assumption)
  first
  | exact yJ.intro ⟨by omega,z8s hy.2 hn⟩
  | (rw [zZW hn];done)
 all_goals try
  refine yJ.intro fun p hp=> ?_;rcases yD.1 hp with k|k
  ·exact heu.1 p k
  ·rw [zF.1 k];assumption
 all_goals try
  have e9:y.1=l.length:=by omega
  rw [e9];unfold zAh;rfl
 all_goals have hcl:=zM1 x l y.1
 all_goals have hw:zDV x (l.getD y.1 (0,0)).1 (l.getD y.1 (0,0)).2=0:=by assumption
 all_goals have hOk:=z34 g hs hy.2 hw (fun p q=>hpu.1 p ((hpu.2.2 p).2 q))
 all_goals try first
  | (rw [zNJ hOk,zN];rfl)
  | exact zNJ hOk
  | (refine yJ.intro ?_;omega)
 all_goals try
  have hb:zJJ x (l.getD y.1 (0,0)):=(z24 g hs hw).1 (by first|exact .inl (by assumption)|exact .inr (by assumption));obtain ⟨q1,q2,q3,q4⟩:=zWw g hs hOk hb hy.2
  first
  | exact yJ.intro q1
  | exact yJ.intro q2
  | exact absurd (by assumption) q3
  | exact yJ.intro ⟨by omega,q4 _ hpw.2.2⟩
 all_goals
  have hb: ¬ zJJ x (l.getD y.1 (0,0)):=fun q=>((z24 g hs hw).2 q).elim (by assumption) (by assumption);exact yJ.intro ⟨by omega,z81 g hy.2 hOk hb hpw.2.2⟩
theorem zSr (l:List (Int×Int)):zH7 ⟨tyL,[(27,z7M),(57,zMW),(63,zYk)],[(62,.run zY2)]⟩ z8R Tryz.f22 [(ETy.pt yI).av none,(ETy.sl .arr2).av l] (fun r=>r= .s (.sl .arr2 [])):=by
 refine z7K rfl ?_
 repeat' (first
           | ((with_reducible show qC _ _ (Code.seq _ _) _ _);first|refine z6c rfl ?_|refine z7c rfl ?_)
           | with_reducible refine zY1 ?_
           | with_reducible refine zWS ?_
           | with_reducible refine zSD ?_
           | with_reducible refine z2I ?_
           | with_reducible refine zXb ?_
           | with_reducible refine z2P ?_
           | with_reducible refine z7m ?_
           | ((with_reducible show qC _ _ (Code.cond _ _ _) _ _);first|refine z2a rfl ?_|refine zVt rfl ?_)
           | with_reducible refine zRr ?_
           | with_reducible refine zSR ?_
           | with_reducible refine zR2 ?_
           | with_reducible refine zRJ ?_
           | ((with_reducible show z2d _ _ (Exit.exit _) _);first|refine z2Z rfl ?_|refine z1y rfl ?_)
           | with_reducible refine z1w ?_
           | with_reducible refine z2e ?_
           | with_reducible refine z2i ?_
           | with_reducible refine zMT ?_
           | with_reducible refine zM7 ?_
           | with_reducible refine zXM ?_
           | with_reducible refine zHd ?_
           | (conv=>whnf
              first
           | done
           | refine qN ?_
           | apply qH
           | refine qG fun _=> ?_
           | apply qB
           | apply qa
           | apply qo
           | refine qe (fun _=> ?_) (fun _=> ?_)
           | refine qn (fun _=> ?_) (fun _=> ?_)
           | refine qd (fun _=> ?_) (fun _=> ?_)
           | apply qt
           | refine qi (fun _=> ?_) (fun _=> ?_)
           | with_reducible refine zRr ?_
           | with_reducible refine zSR ?_
           | with_reducible refine zR2 ?_
           | with_reducible refine zRJ ?_
           | with_reducible refine zMT ?_
           | with_reducible refine zM7 ?_
           | with_reducible refine zHd ?_
           | refine zA rfl ?_
           | apply qE
           | apply qO
           | exact zO
           | apply qq
           | apply qs
           | refine qK (by kernel_rfl) ?_
           | apply qr))
 all_goals try first|refine qz ?_|apply qz5
 all_goals try simp only [qn0,z7,zX,ETy.dflt,Int.reduceToNat,Int.reduceAdd,Int.reduceSub,Int.reduceNeg,Nat.reduceAdd] at *
 all_goals rfl
def zFe:List AV->Option Res:=zCr (.pt yI) (.sl .arr2) (fun o l=>some (none,some ((∀ x,o=some x->Full x/\jV (InN x.1.1) x.1.2)/\l.length<=100000),.s (.sl .arr2 (match o with|some x=>zAh x l|none=>[]))))
theorem zI8:qM prog 22 zFe:=mkR (jD fun o l r h=>by
 cases h;cases o with
 | none=>exact zHL (yN (fn:=[(27,z7M),(57,zMW),(63,zYk)]) (fr:=[(62,.run zY2)]) ⟨z26,zLu,zVp,trivial⟩ ⟨zY3,trivial⟩) zVc func22 rfl (by kernel_rfl) (zU rfl) fun _ _=>zSr l
 | some x=>exact zHL (yN (fn:=[(27,z7M),(57,zMW),(63,zYk)]) (fr:=[(62,.run zY2)]) ⟨z26,zLu,zVp,trivial⟩ ⟨zY3,trivial⟩) zVc func22 rfl (by kernel_rfl) (zU rfl) fun _ h=>zYQ x l (h.1 x rfl).1 (h.1 x rfl).2 h.2) func22
end S1
namespace S1
def bwL (n:Nat):List Int:=(List.range n).map fun (j:Nat)=>(n:Int) - 1 - j
theorem zFN (n:Nat):(bwL n).length=n:=by unfold bwL;rw [yV,zAD]
theorem zPH {n k:Nat} (h:k<n):(bwL n).getD k 0=(n:Int) - 1 - k:=by
 unfold bwL;rw [zR,zbf,List.getElem?_range h];rfl
theorem zR7 {n k:Nat} (h:k<n):(bwL n).take k++[(n:Int) - 1 - k]=(bwL n).take (k+1):=by
 rw [yB (by rw [zFN];exact h)];have:=zPH h;rw [zR,zG (by rw [zFN];exact h)] at this;rw [<- show (bwL n)[k]'(by rw [zFN];exact h)=(n:Int) - 1 - k from this]
def zVG (R:List zAJ):Spec Nat where
 inv k:=k<=R.length
 live k:=[(3,.s (.int .i64 ((R.length:Int) - 1 - k)))]
 keep:=[0,1]
 heap _:=[]
 keepH:=[]
 mu k:=R.length - k
theorem z8B (R:List zAJ) (hn:R.length<=100000):zQ0 ⟨tyL,[],[]⟩ f105 [⟨.sl zG3,R⟩] (bwL R.length):=by
 repeat' (conv=>whnf
          first|done|refine qy ?_|refine qG fun _=> ?_|refine qw (fun _=> ?_) (fun _=> ?_)|apply qt|refine qi (fun _=> ?_) (fun _=> ?_)|refine (fun (l:Nat)=> ?_)|refine zB Nat (zB (zVG R) (zB (fun k=>(bwL R.length).take k) (zA (zB 0 (zA (yJ.out ?_) (zA (zAp.out ?_) (zA ?_ (zA ?_ rfl))))) (fun k hk=> ?_))))|((with_reducible show (∃ y,And (Spec.inv (zVG _) y) _));refine zB (k+1) (zA (yJ.out ?_) (zA (zAp.out ?_) (zA (zA ?_ (zA ?_ rfl)) (yJ.out ?_)))))|refine zA (yJ.out (p:=(_++[_]) <+: _) ?_) ?_|refine zA (zAp.intro (y9.out ?_)) ?_|refine zAp.out ?_|refine qu ?_|refine qv ?_ ?_|exact zO)
 all_goals try first|refine qz ?_|apply qz5
 all_goals try simp only [qn0,z7,zX,ETy.dflt,Int.reduceToNat,Int.reduceAdd,Int.reduceSub,Int.reduceNeg,Nat.reduceAdd,zVG] at *
 all_goals have eR:List.length ((some R).getD [])=R.length:=rfl
 all_goals have hlb:=zFN R.length
 ·exact yJ.intro (zbH _)
 ·exact zAp.intro rfl
 ·rw [eR];omega
 ·refine yJ.intro ?_;rw [eR];omega
 all_goals try have hk1:k<R.length:=by omega
 ·rw [zR7 hk1];exact yJ.intro (List.take_prefix _ _)
 ·exact y9.intro rfl
 ·exact yJ.intro hk1
 ·exact zAp.intro (zR7 hk1).symm
 ·omega
 ·refine yJ.intro ?_;omega
 ·exact zAp.intro (zbT (by omega))
theorem z7C {n:Nat} (h:n<=100000): ∀ x∈bwL n,InK .i64 x:=fun x hx=>by
 obtain ⟨j,hj,rfl⟩:=yC.1 hx;have:=zV.1 hj;exact InK.i64.2 (by unfold yP;omega)
def seqB:zDE:=fun f ps L=>f=105/\∃ R:List zAJ,ps=[⟨.sl zG3,R⟩]/\R.length<=100000/\L=bwL R.length
theorem z6h:zDb prog seqB:=fun f ps L h=>by
 obtain ⟨rfl,R,rfl,hn,rfl⟩:=h;exact seq_ok (yN (fn:=[]) (fr:=[]) trivial trivial) func105 rfl (by kernel_rfl) rfl (by kernel_rfl) (zU rfl) (z7C hn) fun _=>z8B R hn
theorem z9R {fn} (R:List zAJ):zAG ⟨tyL,fn,[]⟩ f67 [(ETy.sl zG3).av R] (fun r=>r= .s (.clo 105 [⟨.sl zG3,R⟩])):=by
 repeat' (conv=>whnf
          first|done|refine qy ?_|refine qG fun _=> ?_|refine qw (fun _=> ?_) (fun _=> ?_)|apply qt|refine qi (fun _=> ?_) (fun _=> ?_)|refine qu ?_|refine qv ?_ ?_|exact zO)
 all_goals try first|refine qz ?_|apply qz5
 all_goals try simp only [qn0,z7,zX,ETy.dflt,Int.reduceToNat,Int.reduceAdd,Int.reduceSub,Int.reduceNeg,Nat.reduceAdd] at *
def bwC:List AV->Option Res:=zEz (.sl zG3) (fun R=>some (none,none,.s (.clo 105 [⟨.sl zG3,R⟩])))
theorem z9C:qM prog 67 bwC:=mkR (zA1 fun R r h=>by cases h;exact fb (fn:=[]) trivial func67 fun _ _=>z9R R) func67
inductive ChB (s:SoT):SoT->List zAJ->Prop
 | nil:ChB s s []
 | snoc {x y:SoT} {R:List zAJ} {r:zAJ} :ChB s y R->doR y r.1 r.2.1=(x,r,0)->ChB s x (R++[r])
theorem ChB.back {s x:SoT} {R:List zAJ} {r:zAJ} (h:ChB s x (R++[r])):(zBe x r).2=0/\ChB s (zBe x r).1 R:=by
 generalize e:R++[r]=Q at h;cases h with
 | nil=>simp at e
 | snoc h1 h2 =>
   obtain ⟨e1,e2⟩:=List.append_inj' e rfl;cases e2;subst e1;have:=zSW h2;rw [this];exact ⟨rfl,h1⟩
theorem ChB.zero {s x:SoT} (h:ChB s x []):x=s:=by
 generalize e:([]:List zAJ)=Q at h;cases h with
 | nil=>rfl
 | snoc=>simp at e
noncomputable def unS (x:SoT) (R:List zAJ):Nat->SoT
 | 0=>x
 | k+1=>(zBe (unS x R k) (R.getD (R.length - 1 - k) zOr)).1
theorem zKA {R:List zAJ} {k:Nat} (h:k<R.length):R.take (k+1)=R.take k++[R.getD k zOr]:=by
 rw [yB h,zR,zG h];rfl
theorem zVf {s x:SoT} {R:List zAJ} (h:ChB s x R): ∀ k,k<=R.length->ChB s (unS x R k) (R.take (R.length - k))
 | 0,_=>by rw [Nat.sub_zero,zbK];exact h
 | k+1,hk=>by
   have ih:=zVf h k (by omega);rw [show R.length - k=(R.length - (k+1))+1 by omega,zKA (by omega)] at ih;have:=ih.back.2;unfold unS;rw [show R.length - 1 - k=R.length - (k+1) by omega];exact this
theorem z6O {s x:SoT} {R:List zAJ} (h:ChB s x R) {k:Nat} (hk:k<R.length):(zBe (unS x R k) (R.getD (R.length - 1 - k) zOr)).2=0:=by
 have ih:=zVf h k (by omega);rw [show R.length - k=(R.length - 1 - k)+1 by omega,zKA (by omega)] at ih;exact ih.back.1
theorem z32 {s x:SoT} {R:List zAJ} (h:ChB s x R):unS x R R.length=s:=by
 have:=zVf h R.length (zI _);rw [zdl,List.take_zero] at this;exact this.zero
noncomputable def z2n (x:SoT) (R:List zAJ):Spec Nat where
 inv _:=True
 live _:=[]
 keep:=[1,2,4,5]
 heap k:=[(0,.flat 24 [.int .i64 (unS x R k).1,.sl .arr3 (unS x R k).2])]
 keepH:=[1,2,3,4]
 mu _:=0
theorem z3M {s x:SoT} {R:List zAJ} (h:ChB s x R) {k:Nat} (hk:k<(bwL R.length).length):(zBe (unS x R k) (R.getD ((bwL R.length).getD k 0).toNat zOr)).2=0:=by
 rw [zFN] at hk;have:=z6O h hk;rw [zPH hk,show ((R.length:Int) - 1 - k).toNat=R.length - 1 - k by omega];exact this
attribute [local irreducible] zBe unS
theorem z1d (n:Int) (l:List P3) (R:List zAJ) (s:SoT) (h:ChB s (n,l) R) (hn:R.length<=100000) (hl:l.length<=8192):zH7 ⟨tyL,[(64,zIF),(67,bwC),(68,zWc)],[]⟩ seqB Tryz.f25 [qP.av (n,l),(ETy.sl zG3).av R] (fun r=>r=zS4 (s,0)):=by
 repeat' (conv=>whnf
          first|done|refine qy ?_|refine qG fun _=> ?_|refine qw (fun _=> ?_) (fun _=> ?_)|apply qt|refine qi (fun _=> ?_) (fun _=> ?_)|refine zB (bwL R.length) (zA (yJ.out ?_) (zB (z2n (n,l) R) ?_))|(refine zA (fun X=> ?_) (fun X=> ?_))|(refine zA (zA ?_ (zA ?_ rfl)) (fun k hk=> ?_))|(refine zA ?_ (zA ?_ rfl))|exact absurd (z3M h hk) (by assumption)|refine qu ?_|refine qv ?_ ?_|exact zO)
 all_goals try first|refine qz ?_|apply qz5
 all_goals try simp only [qn0,z7,zX,ETy.dflt,Int.reduceToNat,Int.reduceAdd,Int.reduceSub,Int.reduceNeg,Nat.reduceAdd,z2n] at *
 ·exact yJ.intro ⟨rfl,R,rfl,hn,rfl⟩
 ·rw [show unS (n,l) R 0=(n,l) by unfold unS;rfl];exact jL.intro rfl
 ·have e:unS (n,l) R (k+1)=(zBe (unS (n,l) R k) (R.getD ((bwL R.length).getD k 0).toNat zOr)).1:=by
   have hk1:k<R.length:=by rw [zFN] at hk;exact hk
   rw [zPH hk1,show ((R.length:Int) - 1 - k).toNat=R.length - 1 - k by omega];conv=>lhs;unfold unS
  rw [e];exact jL.intro rfl
 ·rw [zFN,z32 h];exact y9.intro rfl
def zY6 (s0:SoT):List AV->Option Res:=zCr qP (.sl zG3) (fun s R=>some (none,some (ChB s0 s R/\R.length<=100000/\s.2.length<=8192),zS4 (s0,0)))
theorem z1b (s0:SoT):qM prog 25 (zY6 s0):=mkR (jD fun s R r h=>by
 cases h;exact zHL (yN (fn:=[(64,zIF),(67,bwC),(68,zWc)]) (fr:=[]) ⟨zMV,z9C,zYz,trivial⟩ trivial) z6h func25 rfl (by kernel_rfl) (zU rfl) fun _ h=>z1d s.1 s.2 R s0 h.1 h.2.1 h.2.2) func25
end S1
namespace S1
abbrev EdB:=List (Int×Int)
def zJh (R:List zAJ) (e:Int×Int):Int×Int:=(zAV R e.1,zAV R e.2)
def doK (s:SoT) (l:EdB):Nat->SoT×List zAJ
 | 0=>(s,[])
 | k+1=>((doR (doK s l k).1 (zAV (doK s l k).2 (l.getD k (0,0)).1) (zAV (doK s l k).2 (l.getD k (0,0)).2)).1,
   (doK s l k).2++[(doR (doK s l k).1 (zAV (doK s l k).2 (l.getD k (0,0)).1) (zAV (doK s l k).2 (l.getD k (0,0)).2)).2.1])
theorem zOk (r:zAJ): ∀ (R:List zAJ) (v:Int),zAV (R++[r]) v=if zJs (zAV R v) r.1 r.2.1<0 then -1 else zJs (zAV R v) r.1 r.2.1
 | [],v=>by
   show zAV [r] v=_;unfold zAV;split
   ·rfl
   ·rfl
 | q::l,v=>by
   show zAV (q::(l++[r])) v=_;unfold zAV;split
   ·rw [if_pos (by unfold zJs;rw [if_pos (by decide)];decide)]
   ·exact zOk r l _
theorem zZb {s:SoT} {a b:Int} (hs:zBK s) (k:zBN s.2 a b):doE s a b=0/\(doR s a b).1=zZv s a b/\(doR s a b).2.1.1=a/\(doR s a b).2.1.2.1=b:=by
 have hi:=zCW hs k
 have h0:doE s a b=0:=by
  rw [zIA hs,if_pos ⟨hi.1,hi.2⟩,(zEm hs k).1];rfl
 rw [zSy h0];refine ⟨h0,?_,rfl,rfl⟩;show (s.1 - 1,drL a b s.2 s.2.length)=_;rw [zXa];rfl
theorem z82 {a v:Int} (hv:0<=v) (ha:0<=a):0<=dn a v:=by unfold dn;split<;>omega
theorem zIU {α:Type} {l:List α} {k:Nat} (d:α) (h:k<l.length):l.drop k=l.getD k d::l.drop (k+1):=by
 rw [List.drop_eq_getElem_cons h,zR,zG h];rfl
structure z7x (s:SoT) (l:EdB) (k:Nat):Prop where
 bat:zFG (doK s l k).1 ((l.drop k).map (zJh (doK s l k).2))
 len:(doK s l k).2.length=k
 num:(doK s l k).1.1=s.1 - k
 ch:ChB s (doK s l k).1 (doK s l k).2
 ok:okR (doK s l k).2
 tri:(doK s l k).1.2.length<=s.2.length
theorem z1Q (a b:Int) (l:List P3):(zIZ a b l).length<=l.length:=by
 unfold zIZ;rw [yV];exact zcC _ _
theorem zFT {s:SoT} {l:EdB} {k:Nat} (h:z7x s l k) (hk:k<l.length):(doR (doK s l k).1 (zAV (doK s l k).2 (l.getD k (0,0)).1) (zAV (doK s l k).2 (l.getD k (0,0)).2)).2.2=0/\
 (doK s l (k+1)).1=zZv (doK s l k).1 (zAV (doK s l k).2 (l.getD k (0,0)).1) (zAV (doK s l k).2 (l.getD k (0,0)).2)/\
 (∀ v,0<=zAV (doK s l k).2 v->zAV (doK s l (k+1)).2 v=dn (zAV (doK s l k).2 (l.getD k (0,0)).1) (ph (zAV (doK s l k).2 (l.getD k (0,0)).1) (zAV (doK s l k).2 (l.getD k (0,0)).2) (zAV (doK s l k).2 v))/\0<=zAV (doK s l (k+1)).2 v)/\z7x s l (k+1):=by
 have hb:=h.bat;rw [zIU (0,0) hk,zbk] at hb;obtain ⟨a,ea⟩: ∃ a,a=zAV (doK s l k).2 (l.getD k (0,0)).1:=⟨_,rfl⟩;obtain ⟨b,eb⟩: ∃ b,b=zAV (doK s l k).2 (l.getD k (0,0)).2:=⟨_,rfl⟩;have hb:zFG (doK s l k).1 ((a,b)::(l.drop (k+1)).map (zJh (doK s l k).2)):=by rw [ea,eb];exact hb
 have hf:zBN (doK s l k).1.2 a b:=hb.free (a,b) (zY ..);have hi:=zCW hb.surf hf;have ia:0<=a/\a<(doK s l k).1.1:=hi.1;have ib:0<=b/\b<(doK s l k).1.1:=hi.2;obtain ⟨d1,d2,d3,d4⟩:=zZb hb.surf hf;have e1:(doK s l (k+1)).1=(doR (doK s l k).1 a b).1:=by rw [ea,eb];rfl
 have e2:(doK s l (k+1)).2=(doK s l k).2++[(doR (doK s l k).1 a b).2.1]:=by rw [ea,eb];rfl
 have hn: ∀ v,0<=zAV (doK s l k).2 v->zAV (doK s l (k+1)).2 v=dn a (ph a b (zAV (doK s l k).2 v))/\0<=zAV (doK s l (k+1)).2 v:=fun v hv=>by
  have hw:0<=dn a (ph a b (zAV (doK s l k).2 v)):=z82 (by unfold ph;split<;>omega) ia.1
  have e:zAV (doK s l (k+1)).2 v=dn a (ph a b (zAV (doK s l k).2 v)):=by
   rw [e2,zOk,d3,d4,zMP hv,if_neg (by omega)]
  exact ⟨e,by rw [e];exact hw⟩
 rw [<- ea,<- eb];refine ⟨by rw [zLI];exact d1,by rw [e1,d2],hn,⟨?_,?_,?_,?_,?_,?_⟩⟩
 ·have hs:=zXK hb;rw [e1,d2];rw [zcE] at hs
  have ec:(l.drop (k+1)).map (zJh (doK s l (k+1)).2)=(l.drop (k+1)).map (dn2 a ∘ zJh (doK s l k).2):=by
   refine zbN fun e he=> ?_;have hm:zJh (doK s l k).2 e∈(l.drop (k+1)).map (zJh (doK s l k).2):=yC.2 ⟨e,he,rfl⟩;have hf2:zBN (doK s l k).1.2 (zJh (doK s l k).2 e).1 (zJh (doK s l k).2 e).2:=hb.free _ (zQ _ hm);have hap:=(List.pairwise_cons.1 hb.apart).1 _ hm;have hne:=zD1 hf2 hap;have hi2:=zCW hb.surf hf2;show (zAV _ e.1,zAV _ e.2)=(dn a (zAV _ e.1),dn a (zAV _ e.2));rw [(hn e.1 hi2.1.1).1,(hn e.2 hi2.2.1).1,zLT (show zAV _ e.1≠a from hne.1.1),zLT (show zAV _ e.2≠a from hne.2.1)]
  rw [ec];exact hs
 ·rw [e2,zN,h.len];rfl
 ·rw [e1,d2];show (doK s l k).1.1 - 1=_;rw [h.num];omega
 ·rw [e1,e2];refine .snoc h.ch ?_;rw [d3,d4];have e0:=zSy d1;rw [e0]
 ·intro r hr;rw [e2] at hr;rcases yD.1 hr with k|k
  ·exact h.ok r k
  ·rw [zF.1 k,d4];have:=hb.surf.fit.2.1;omega
 ·rw [e1,d2];show ((zIZ a b (doK s l k).1.2).map _).length<=_;rw [yV];exact zb0 (z1Q _ _ _) h.tri
theorem zFF {s:SoT} {l:EdB} (h:zFG s l): ∀ k,k<=l.length->z7x s l k
 | 0,_=>by
   refine ⟨?_,rfl,(Int.sub_zero _).symm,.nil,fun r hr=>(by cases hr),zI _⟩
   have e:(l.drop 0).map (zJh (doK s l 0).2)=l:=by
    rw [zb6];exact (zbN (fun e _=>show (zAV [] e.1,zAV [] e.2)=e from rfl)).trans (List.map_id l)
   rw [e];exact h
 | k+1,hk=>(zFT (zFF h k (by omega)) (by omega)).2.2.2
theorem zUJ {s:SoT} {l:EdB} (h:zFG s l) {v:Int} (hv:0<=v): ∀ k,k<=l.length->0<=zAV (doK s l k).2 v
 | 0,_=>hv
 | k+1,hk=>((zFT (zFF h k (by omega)) (by omega)).2.2.1 v (zUJ h hv k (by omega))).2
end S1
namespace S1
def zMj (o:Option yI.T) (l:List (Int×Int)):Bool:=match o with
 | some x=>decide (((zAh x l).length:Int)=l.length)
 | none=>false
attribute [local irreducible] zAh
theorem z69 (x:yI.T) (l:List (Int×Int)) (g:Full x) (hs:jV (InN x.1.1) x.1.2) (hl9:l.length<=100000):zAG ⟨tyL,[(22,zFe)],[]⟩ f19 [(ETy.pt yI).av (some x),(ETy.sl .arr2).av l] (fun r=>r= .s (.bool (zMj (some x) l))):=by
 repeat' (conv=>whnf
          first|done|refine qy ?_|refine qG fun _=> ?_|refine qw (fun _=> ?_) (fun _=> ?_)|apply qt|refine qi (fun _=> ?_) (fun _=> ?_)|refine qu ?_|refine qv ?_ ?_|exact zO)
 all_goals try first|refine qz ?_|apply qz5
 all_goals try simp only [qn0,z7,zX,ETy.dflt,Int.reduceToNat,Int.reduceAdd,Int.reduceSub,Int.reduceNeg,Nat.reduceAdd,zMj] at *
 all_goals try exact yJ.intro ⟨fun y h=>by cases h;exact ⟨g,hs⟩,hl9⟩
 all_goals (rw [Bool.eq_iff_iff,beq_iff_eq,zP];done)
theorem z3X (l:List (Int×Int)):zAG ⟨tyL,[(22,zFe)],[]⟩ f19 [(ETy.pt yI).av none,(ETy.sl .arr2).av l] (fun r=>r= .s (.bool (zMj none l))):=by
 repeat' (conv=>whnf
          first|done|refine qy ?_|refine qG fun _=> ?_|refine qw (fun _=> ?_) (fun _=> ?_)|apply qt|refine qi (fun _=> ?_) (fun _=> ?_)|refine qu ?_|refine qv ?_ ?_|exact zO)
 all_goals try first|refine qz ?_|apply qz5
 all_goals try simp only [qn0,z7,zX,ETy.dflt,Int.reduceToNat,Int.reduceAdd,Int.reduceSub,Int.reduceNeg,Nat.reduceAdd,zMj] at *
 all_goals try rfl
def z7L:List AV->Option Res:=zCr (.pt yI) (.sl .arr2) (fun o l=>some (none,some ((∀ x,o=some x->Full x/\jV (InN x.1.1) x.1.2)/\l.length<=100000),.s (.bool (zMj o l))))
theorem z2S:qM prog 19 z7L:=mkR (jD fun o l r h=>by
 cases h;cases o with
 | none=>exact fb (fn:=[(22,zFe)]) ⟨zI8,trivial⟩ func19 fun _ _=>z3X l
 | some x=>exact fb (fn:=[(22,zFe)]) ⟨zI8,trivial⟩ func19 fun _ h=>z69 x l (h.1 x rfl).1 (h.1 x rfl).2 h.2) func19
def zMh (s:SoT) (l:EdB):Int:=if isR s=true then (if zMj (some (zAa s)) l=true then 0 else 14) else 11
def doB (s:SoT) (l:EdB):SoT×List zAJ×Int:=if zMh s l=0 then ((doK s l l.length).1,(doK s l l.length).2,0) else ((0,[]),[],zMh s l)
def z84 (r:SoT×List zAJ×Int):AV:= .tup [qP.av r.1,.s (.sl zG3 r.2.1),.s (.int .i64 r.2.2)]
def z7h (r:SoT×List zAJ×Int):AV:=if r.2.2=0 then z84 r else .tup [.agg [.int .i64 0,.val (.slice none 0 0)],.s (.sl zG3 []),.s (.int .i64 r.2.2)]
theorem zSZ {s:SoT} {l:EdB} (h:zMh s l=0):doB s l=((doK s l l.length).1,(doK s l l.length).2,0):=if_pos h
theorem z7q {s:SoT} {l:EdB} {e:Int} (h:zMh s l=e) (he:e≠0):doB s l=((0,[]),[],e):=by unfold doB;rw [if_neg (by rw [h];exact he),h]
theorem z2W {s:SoT} {l:EdB} {e:Int} (h:zMh s l=e) (he:e≠0):z7h (doB s l)= .tup [.agg [.int .i64 0,.val (.slice none 0 0)],.s (.sl zG3 []),.s (.int .i64 e)]:=by
 rw [z7q h he];unfold z7h;rw [if_neg he]
theorem zQt {I:Sig} {s:SoT} {l:EdB} {v:Value} (h:y6 I [] (z7h (doB s l)) v):y6 I [] (z84 (doB s l)) v:=by
 by_cases he:zMh s l=0
 ·rw [zSZ he] at *;exact h
 ·rw [z2W rfl he] at h;rw [z7q rfl he];obtain ⟨vs,e1,h⟩:=h
  match vs,h with
  | [x,y,z],⟨⟨ds,ea,h1⟩,h2,h3⟩ =>
    refine ⟨_,e1,⟨ds,ea,?_⟩,h2,h3⟩
    match ds,h1 with
    | [d1,d2],⟨k1,k2,k3⟩=>exact ⟨k1,zIo k2,k3⟩
theorem zGf {s:SoT} (hs:zBK s) {l:EdB} :zMj (some (zAa s)) l=true↔zFG s l:=by
 obtain ⟨_,g,e⟩:=zAu hs;have hm:jV (InN (zAa s).1.1) (zAa s).1.2:=zAc (s:=(zAa s).1) (by rw [e];exact hs);have:=zQM g hm (l:=l);unfold zMj;rw [zP];constructor
 ·intro h;have b:=this.1 (by omega);exact ⟨hs,by rw [<- e];exact b.free,by rw [<- e];exact b.apart⟩
 ·intro h;have:=this.2 ⟨by rw [e];exact h.free,by rw [e];exact h.apart⟩;omega
theorem z1L (s:SoT) (l:EdB) (k:Nat):doK s l (k+1)=((doR (doK s l k).1 (zAV (doK s l k).2 (l.getD k (0,0)).1) (zAV (doK s l k).2 (l.getD k (0,0)).2)).1,
 (doK s l k).2++[(doR (doK s l k).1 (zAV (doK s l k).2 (l.getD k (0,0)).1) (zAV (doK s l k).2 (l.getD k (0,0)).2)).2.1]):=rfl
theorem z4D (s:SoT) (l:EdB):doK s l 0=(s,[]):=rfl
def zWx (s:SoT) (l:EdB):Spec Nat where
 inv k:=k<=l.length
 live k:=[(35,.s (.int .i64 k)),(9,.s (.own 4 0 (doK s l k).2.length))]
 keep:=[2,4,33,34]
 heap k:=[(0,.flat 24 [.int .i64 (doK s l k).1.1,.sl .arr3 (doK s l k).1.2]),(4,.row zG3 103 (doK s l k).2)]
 keepH:=[1,2,3]
 mu k:=l.length - k
attribute [local irreducible] doR zAV doK zMj
theorem z75 (n:Int) (l:List P3) (es:EdB) (x:yI.T) (hx:zHP (n,l)=some x) (hl9:es.length<=100000):zAG ⟨tyL,[(54,zKs x),(19,z7L),(64,zIF),(66,z60),(65,z5p)],[]⟩ Tryz.f24 [qP.av (n,l),(ETy.sl .arr2).av es] (fun r=>r=z7h (doB (n,l) es)):=by
 obtain ⟨e0,g,hs⟩:=zHj hx
 repeat' (conv=>whnf
          first|done|refine qy ?_|refine qG fun _=> ?_|refine qw (fun _=> ?_) (fun _=> ?_)|apply qt|refine qi (fun _=> ?_) (fun _=> ?_)|(refine zaB 9 rfl (zWx (n,l) es) (0) ?_ ?_ ?_ fun k hk=> ?_)|with_reducible refine zaA (zWx _ _) (k+1) ?_ ?_ ?_ ?_|refine qu ?_|refine qv ?_ ?_|exact zO)
 all_goals try first|refine qz ?_|apply qz5
 all_goals try simp only [qn0,z7,zX,ETy.dflt,Int.reduceToNat,Int.reduceAdd,Int.reduceSub,Int.reduceNeg,Nat.reduceAdd,zWx] at *
 all_goals have hsm:jV (InN x.1.1) x.1.2:=by
            obtain ⟨_,_,e⟩:=zAu hs;rw [e0];exact zAc (s:=(zAa (n,l)).1) (by rw [e];exact hs)
 all_goals try exact yJ.intro ⟨fun y h=>by cases h;exact ⟨g,hsm⟩,hl9⟩
 all_goals try
  have hB0:zMj (some x) es=false:=by assumption
  have h14:zMh (n,l) es=14:=by
        unfold zMh;rw [if_pos ((zB4 (n,l)).2 hs),<- e0,if_neg (by rw [hB0];decide)]
  exact y9.intro (z2W h14 (by decide)).symm
 all_goals have hB:zMj (some x) es=true:=by assumption
 all_goals have hb:zFG (n,l) es:=(zGf hs).1 (by rw [<- e0];exact hB)
 all_goals have h0:zMh (n,l) es=0:=by
            unfold zMh;rw [if_pos ((zB4 (n,l)).2 hs),<- e0,if_pos hB]
 all_goals try exact yJ.intro (show l.length<=8192 from hs.fit.2.2.1)
 all_goals try (refine yJ.intro ?_;omega)
 all_goals try first
  | (rw [z4D];done)
  | (rw [z4D];rfl)
  | (rw [z4D];exact jL.intro rfl)
 all_goals have hd:=zFF hb k hk
 all_goals have hdl:=hd.len
 all_goals try (refine yJ.intro ?_;omega)
 all_goals try
  have e9:k=List.length es:=by omega
  subst e9;refine y9.intro ?_;rw [zSZ h0];unfold z7h;rw [if_pos rfl];rfl
 all_goals have hk1:k<List.length es:=by omega
 all_goals have hst:=zFT hd hk1
 all_goals try exact absurd hst.1 (by assumption)
 all_goals try first
  | (rw [z1L,zN];done)
  | (rw [z1L,zN];rfl)
  | (rw [z1L];done)
  | (rw [z1L];exact jL.intro rfl)
 all_goals
  have hm : List.getD es k (0,0)∈es:=by
            rw [zR,zG hk1];exact yQ hk1
  have hi:=zCW hs (hb.free _ hm);have hn: @LE.le Int _ n 4096:=hs.fit.2.1;have h1: @LE.le Int _ 0 (List.getD es k (0,0)).1/\@LT.lt Int _ (List.getD es k (0,0)).1 n:=hi.1;have h2: @LE.le Int _ 0 (List.getD es k (0,0)).2/\@LT.lt Int _ (List.getD es k (0,0)).2 n:=hi.2;exact yJ.intro ⟨⟨by omega,by omega⟩,hd.ok⟩
def z6P:List AV->Option Res:=zCr qP (.sl .arr2) (fun s es=>some (none,some (zBK s/\es.length<=100000),z84 (doB s es)))
theorem z2N:qM prog 24 z6P:=mkR (jD fun s es r h=>by
 cases h;cases e:zHP s with
 | none=>exact zCn.res (fun I vals w hag hv=>⟨trivial,fun hq=>absurd (zAu (show zBK s from hq.1)).1 (by rw [e];simp)⟩) fun I v h=>zQt h
 | some x=>exact zCn.res (fb (fn:=[(54,zKs x),(19,z7L),(64,zIF),(66,z60),(65,z5p)]) ⟨(zMB x),z2S,zMV,z2u,zVA,trivial⟩ func24 fun _ h=>z75 s.1 s.2 es x e h.2) fun I v h=>zQt h) func24
end S1
namespace S9
open S1
@[irreducible] def zFd (t:P3) (v:Int):Bool:=t.1==v|| (t.2.1==v|| t.2.2==v)
@[irreducible] def zOj (t:P3) (a b:Int):Bool:=(t.1==a&&t.2.1==b)|| ((t.2.1==a&&t.2.2==b)|| (t.2.2==a&&t.1==b))
theorem zZf {fn} (t:P3) (a b:Int):zAG ⟨tyL,fn,[]⟩ f178 [ETy.arr3.av t,(ETy.int .i64).av a,(ETy.int .i64).av b] (fun r=>r= .s (.bool (zOj t a b))):=by
 repeat' (conv=>whnf
          first|done|refine qy ?_|refine qG fun _=> ?_|refine qw (fun _=> ?_) (fun _=> ?_)|apply qt|refine qi (fun _=> ?_) (fun _=> ?_)|refine qu ?_|refine qv ?_ ?_|exact zO)
 all_goals try first|refine qz ?_|apply qz5
 all_goals try simp only [qn0,z7,zX,ETy.dflt,Int.reduceToNat,Int.reduceAdd,Int.reduceSub,Int.reduceNeg,Nat.reduceAdd,zOj] at *
 all_goals rw [Bool.eq_iff_iff];simp only [zbA,zC,beq_iff_eq,Bool.false_eq_true,true_iff,iff_true,false_iff,iff_false];omega
def zWV:List AV->Option Res:=zOw .arr3 (.int .i64) (.int .i64) (fun t a b=>some (none,none,.s (.bool (zOj t a b))))
theorem z1g:qM prog 178 zWV:=mkR (zDZ fun t a b r h=>by cases h;exact fb (fn:=[]) trivial func178 fun _ _=>zZf t a b) func178
theorem z4X {fn} (t:P3) (v:Int):zAG ⟨tyL,fn,[]⟩ f133 [ETy.arr3.av t,(ETy.int .i64).av v] (fun r=>r= .s (.bool (zFd t v))):=by
 repeat' (conv=>whnf
          first|done|refine qy ?_|refine qG fun _=> ?_|refine qw (fun _=> ?_) (fun _=> ?_)|apply qt|refine qi (fun _=> ?_) (fun _=> ?_)|refine qu ?_|refine qv ?_ ?_|exact zO)
 all_goals try first|refine qz ?_|apply qz5
 all_goals try simp only [qn0,z7,zX,ETy.dflt,Int.reduceToNat,Int.reduceAdd,Int.reduceSub,Int.reduceNeg,Nat.reduceAdd,zFd] at *
 ·rename_i h;rw [h];simp
 ·rename_i h1 h;rw [h];simp
 ·rename_i h1 h2;rw [beq_false_of_ne h1,beq_false_of_ne h2];rfl
def zQI:List AV->Option Res:=zCr .arr3 (.int .i64) (fun t v=>some (none,none,.s (.bool (zFd t v))))
theorem zPc:qM prog 133 zQI:=mkR (jD fun t v r h=>by cases h;exact fb (fn:=[]) trivial func133 fun _ _=>z4X t v) func133
@[irreducible] def zJb (t u:P3):Bool:=zOj u t.1 t.2.1|| (zOj u t.2.1 t.2.2|| zOj u t.2.2 t.1)
theorem zU9 (t u:P3):zAG ⟨tyL,[(178,zWV)],[]⟩ f159 [ETy.arr3.av t,ETy.arr3.av u] (fun r=>r= .s (.bool (zJb t u))):=by
 repeat' (conv=>whnf
          first|done|refine qy ?_|refine qG fun _=> ?_|refine qw (fun _=> ?_) (fun _=> ?_)|apply qt|refine qi (fun _=> ?_) (fun _=> ?_)|refine qu ?_|refine qv ?_ ?_|exact zO)
 all_goals try first|refine qz ?_|apply qz5
 all_goals try simp only [qn0,z7,zX,ETy.dflt,Int.reduceToNat,Int.reduceAdd,Int.reduceSub,Int.reduceNeg,Nat.reduceAdd,zJb] at *
 all_goals simp [*]
def zQY:List AV->Option Res:=zCr .arr3 .arr3 (fun t u=>some (none,none,.s (.bool (zJb t u))))
theorem zVj:qM prog 159 zQY:=mkR (jD fun t u r h=>by cases h;exact fb (by exact ⟨z1g,trivial⟩) func159 fun _ _=>zU9 t u) func159
def zHq (n:Int):Nat->List P3->List Wit
 | _,[]=>[]
 | i,t::r=>if zCm n t then zHq n (i+1) r else (1,(i:Int),0)::zHq n (i+1) r
def zHN (s:Int×List P3):Bool:=decide (s.1<0)|| (decide (s.1>4096)|| decide ((s.2.length:Int)>8192))
def jF (s:Int×List P3):List Wit:=if zHN s then [(1,-1,0)] else zHq s.1 0 s.2
def zPj (n:Int) (l:List P3):Spec (Nat×List Wit) where
 inv x:=x.1<=l.length/\x.2.length<=x.1/\zHq n 0 l=x.2++zHq n x.1 (l.drop x.1)
 live x:=[(4,.s (.int .i64 x.1)),(3,.s (.own 2 0 x.2.length))]
 keep:=[1]
 heap x:=[(2,.row zB0 165 x.2)]
 keepH:=[0]
 mu x:=l.length - x.1
theorem zP6 {n:Int} {t:P3} (h:t.1<0\/t.1>=n\/t.2.1<0\/t.2.1>=n\/t.2.2<0\/t.2.2>=n):zCm n t=false:=by
 rw [<- zbV];intro e;have:=zAH e;omega
theorem zG0 {n:Int} {t:P3} (h: ¬ (t.1<0\/t.1>=n\/t.2.1<0\/t.2.1>=n\/t.2.2<0\/t.2.2>=n)):zCm n t=true:=by
 simp only [zCm,vIn,zC,zbB,Bool.or_eq_false_iff,yM];omega
theorem zVu {fn} (n:Int) (l:List P3):zFB ⟨tyL,fn,[]⟩ f131 [qP.av (n,l)] (fun v obs=>v= .s (.own 0 0 (jF (n,l)).length)/\obs=[.row zB0 165 (jF (n,l))]):=by
 repeat' (conv=>whnf
          first|done|refine qy ?_|refine qG fun _=> ?_|refine qw (fun _=> ?_) (fun _=> ?_)|apply qt|refine qi (fun _=> ?_) (fun _=> ?_)|(refine zaB 5 rfl (zPj n l) ((0,[])) ?_ ?_ ?_ fun x hx=> ?_)|(refine zdg 9 rfl ?_;refine Or.inl (zB (4) ?_))|with_reducible refine zaA (zPj _ _) ((x.1+1,if zCm n (l.getD x.1 (0,0,0)) then x.2 else x.2++[(1,(x.1:Int),0)])) ?_ ?_ ?_ ?_|refine qu ?_|refine qv ?_ ?_|exact zO)
 all_goals try first|refine qz ?_|apply qz5
 all_goals try simp only [qn0,z7,zX,ETy.dflt,Int.reduceToNat,Int.reduceAdd,Int.reduceSub,Int.reduceNeg,Nat.reduceAdd,zPj] at *
 all_goals try (refine yJ.intro ?_;omega)
 all_goals try (refine yJ.intro ?_;simp only [List.length_singleton];omega)
 ·rename_i h;simp only [jF,zHN,decide_eq_true h,Bool.true_or,if_true];rfl
 ·rename_i h;simp only [jF,zHN,decide_eq_true h,Bool.true_or,if_true]
 ·rename_i h;simp only [jF,zHN,decide_eq_true h,Bool.true_or,Bool.or_true,if_true];rfl
 ·rename_i h;simp only [jF,zHN,decide_eq_true h,Bool.true_or,Bool.or_true,if_true]
 ·rename_i h;simp only [jF,zHN,decide_eq_true h,Bool.true_or,Bool.or_true,if_true];rfl
 ·rename_i h;simp only [jF,zHN,decide_eq_true h,Bool.true_or,Bool.or_true,if_true]
 ·exact yJ.intro ⟨zbH _,zI _,rfl⟩
 all_goals try
  (have ht:zCm n (l.getD x.1 (0,0,0))=false:=zP6 (by omega)
   (simp only [ht,Bool.false_eq_true,if_false,zN,List.length_singleton]) <;>
   (refine yJ.intro ⟨by omega,by omega,?_⟩;rw [hx.2.2,zBU (0,0,0) (by assumption),zHq,ht];simp;done))
 all_goals try
  (have ht:zCm n (l.getD x.1 (0,0,0))=true:=zG0 (by omega)
   (simp only [ht,if_true]) <;>
   (refine yJ.intro ⟨by omega,by omega,?_⟩;rw [hx.2.2,zBU (0,0,0) (by assumption),zHq,ht];simp;done))
 all_goals
  have e:jF (n,l)=x.2:=by
   have hb:zHN (n,l)=false:=by simp only [zHN,Bool.or_eq_false_iff,yM];omega
   simp only [jF,hb,Bool.false_eq_true,if_false];rw [hx.2.2,zE9 (by assumption)];simp [zHq]
  rw [e]
def zQD:List AV->Option zKQ:=zEz qP (fun s=>some (none,none,.s (.own 0 0 (jF s).length),[.row zB0 165 (jF s)]))
theorem zVF:zDM prog 131 zQD:=zaw (zCC fun s r h=>by cases h;exact fbF (fn:=[]) trivial func131 fun _ _=>zVu s.1 s.2) func131
end S9
namespace S9
open S1
@[irreducible] def ptR (k:Int) (t u:P3):Bool:=(k==3&&zJb t u)|| (k==4&&(zFd u t.1&&(zFd u t.2.1&&zFd u t.2.2)))
def prG (l:List P3) (k:Int) (b a:Nat):Option Wit:=if ptR k (l.getD a (0,0,0)) (l.getD b (0,0,0)) then some (k,(a:Int),(b:Int)) else none
def prI (l:List P3) (k:Int) (b a:Nat):List Wit:=(List.range a).filterMap (prG l k b)
def prO (l:List P3) (k:Int) (b:Nat):List Wit:=(List.range b).flatMap fun b=>prI l k b b
theorem zMR (l:List P3) (k:Int) (b a:Nat):prI l k b (a+1)=prI l k b a++(prG l k b a).toList:=by
 unfold prI;rw [List.range_succ,List.filterMap_append];simp only [List.filterMap_cons,List.filterMap_nil];cases prG l k b a<;>rfl
theorem zRe (l:List P3) (k:Int) (b:Nat):prO l k (b+1)=prO l k b++prI l k b b:=by
 unfold prO;rw [List.range_succ,List.flatMap_append];simp
theorem zVB (l:List P3) (k:Int) (b a:Nat):(prI l k b a).length<=a:=by
 unfold prI;exact zb0 (List.length_filterMap_le _ _) (by simp)
theorem zWA (l:List P3) (k:Int): ∀ b:Nat,b<=8192->(prO l k b).length<=b*8192
 | 0,_=>by simp [prO]
 | b+1,h=>by
   rw [zRe,zN];have:=zWA l k b (by omega);have:=zVB l k b b;omega
def zFJ (l:List P3) (k:Int):Spec Nat where
 inv b:=b<=l.length
 live b:=[(6,.s (.int .i64 b)),(5,.s (.own 2 0 (prO l k b).length))]
 keep:=[1,2]
 heap b:=[(2,.row zB0 165 (prO l k b))]
 keepH:=[0]
 mu b:=l.length - b
def zFE (l:List P3) (k:Int) (b:Nat):Spec Nat where
 inv a:=a<=b
 live a:=[(7,.s (.int .i64 a)),(5,.s (.own 2 0 (prO l k b++prI l k b a).length))]
 keep:=[1,2,6]
 heap a:=[(2,.row zB0 165 (prO l k b++prI l k b a))]
 keepH:=[0]
 mu a:=b - a
theorem zTw (n:Int) (l:List P3) (k:Int) (hl:l.length<=8192):zFB ⟨tyL,[(159,zQY),(133,zQI)],[]⟩ f132 [qP.av (n,l),(ETy.int .i64).av k] (fun v obs=>v= .s (.own 0 0 (prO l k l.length).length)/\obs=[.row zB0 165 (prO l k l.length)]):=by
 repeat' (conv=>whnf
          first|done|refine qy ?_|refine qG fun _=> ?_|refine qw (fun _=> ?_) (fun _=> ?_)|apply qt|refine qi (fun _=> ?_) (fun _=> ?_)|(refine zaB 3 rfl (zFJ l k) (0) ?_ ?_ ?_ fun b hb=> ?_)|with_reducible refine zaA (zFJ _ _) (b+1) ?_ ?_ ?_ ?_|(refine zaB 6 rfl (zFE l k b) (0) ?_ ?_ ?_ fun a ha=> ?_)|with_reducible refine zaA (zFE _ _ _) (a+1) ?_ ?_ ?_ ?_|refine qu ?_|refine qv ?_ ?_|exact zO)
 all_goals try first|refine qz ?_|apply qz5
 all_goals try simp only [qn0,z7,zX,ETy.dflt,Int.reduceToNat,Int.reduceAdd,Int.reduceSub,Int.reduceNeg,Nat.reduceAdd,zFJ,zFE] at *
 all_goals try (refine yJ.intro ?_;omega)
 all_goals try
  (have h1:=zWA l k b (by omega)
   have h2:=zVB l k b a
   refine yJ.intro ?_;rw [zN];omega)
 all_goals try (simp [prI];done)
 all_goals try (exfalso;omega)
 all_goals try
  (have hp:ptR k (l.getD a (0,0,0)) (l.getD b (0,0,0))=true:=by unfold ptR;simp only [*];simp
   rw [zMR,prG,if_pos hp];simp [zbi];done)
 all_goals try
  (have hp:ptR k (l.getD a (0,0,0)) (l.getD b (0,0,0))=false:=by unfold ptR;simp only [*];simp [*]
   rw [zMR,prG,if_neg (by rw [hp];decide)];simp;done)
 all_goals try
  (have hp:ptR k (l.getD a (0,0,0)) (l.getD b (0,0,0))=false:=by
    unfold ptR;rw [beq_false_of_ne (by assumption:k≠3),beq_false_of_ne (by assumption:k≠4)];rfl
   rw [zMR,prG,if_neg (by rw [hp];decide)];simp;done)
 all_goals try
  (have e:a=b:=by omega
   subst e;rw [zRe])
 all_goals
  have e:b=l.length:=by omega
  rw [e]
def zP3:List AV->Option zKQ:=zCr qP (.int .i64) (fun s k=>some (none,some (s.2.length<=8192),.s (.own 0 0 (prO s.2 k s.2.length).length),[.row zB0 165 (prO s.2 k s.2.length)]))
theorem zXe:zDM prog 132 zP3:=zaw (zSK fun s k r h=>by cases h;exact fbF (by exact ⟨zVj,zPc,trivial⟩) func132 fun _ h=>zTw s.1 s.2 k h) func132
def zAX (l:List P3) (v:Int):List P3:=l.filter (zFd · v)
def tch (v w:Int) (u:P3):Bool:=decide (w≠v)&&zFd u w
@[irreducible] def touch (m:List P3) (v:Int) (i k:Nat):Bool :=
  tch v (m.getD i (0,0,0)).1 (m.getD k (0,0,0))|| (tch v (m.getD i (0,0,0)).2.1 (m.getD k (0,0,0))|| tch v (m.getD i (0,0,0)).2.2 (m.getD k (0,0,0)))
def pk (m:List P3) (v:Int) (i:Nat) (s:List Bool) (k:Nat):List Bool:=if s.getD i false=false\/s.getD k false=true then s else if touch m v i k then s.set k true else s
def zH5 (m:List P3) (v:Int) (i:Nat) (s:List Bool) (k:Nat):List Bool:=(List.range k).foldl (pk m v i) s
def zGm (m:List P3) (v:Int) (s:List Bool) (i:Nat):List Bool:=(List.range i).foldl (fun s i=>zH5 m v i s m.length) s
def zF9 (m:List P3) (v:Int) (r:Nat):List Bool:=(List.range r).foldl (fun s _=>zGm m v s m.length) ((List.replicate m.length false).set 0 true)
@[irreducible] def zFI (l:List P3) (v:Int):Bool:= !(List.range (zAX l v).length).all fun j=>(zF9 (zAX l v) v (zAX l v).length).getD j false
theorem zAq (m:List P3) (v:Int) (i:Nat) (s:List Bool) (k:Nat):zH5 m v i s (k+1)=pk m v i (zH5 m v i s k) k:=by
 unfold zH5;rw [List.range_succ,zbm];rfl
theorem zCM (m:List P3) (v:Int) (s:List Bool) (i:Nat):zGm m v s (i+1)=zH5 m v i (zGm m v s i) m.length:=by
 unfold zGm;rw [List.range_succ,zbm];rfl
theorem zBb (m:List P3) (v:Int) (r:Nat):zF9 m v (r+1)=zGm m v (zF9 m v r) m.length:=by
 unfold zF9;rw [List.range_succ,zbm];rfl
theorem zEx (l:List P3) (v:Int) {i:Nat} (h:(i:Int)<l.length):zAX (l.take (i+1)) v=zAX (l.take i) v++(if zFd (l.getD i (0,0,0)) v then [l.getD i (0,0,0)] else []):=by
 have h:i<l.length:=by omega
 unfold zAX;rw [List.take_add_one,zbx,zR,zG h];simp only [Option.toList_some,zbU,zcI,List.filter_nil]
theorem zUC (l:List P3) (v:Int) (i:Nat):(zAX (l.take i) v).length<=l.length:=by
 unfold zAX;exact zb0 (zcC _ _) (by simp;omega)
theorem zM2 {s:List Bool} {i k:Nat} (h1:s.getD i false=true) (h2:s.getD k false=false): ¬ (s.getD i false=false\/s.getD k false=true):=by
 rw [h1,h2];decide
theorem z5Q {m:List P3} {v:Int} {i k:Nat} (h:((m.getD i (0,0,0)).1≠v/\zFd (m.getD k (0,0,0)) (m.getD i (0,0,0)).1=true)\/((m.getD i (0,0,0)).2.1≠v/\zFd (m.getD k (0,0,0)) (m.getD i (0,0,0)).2.1=true)\/
 ((m.getD i (0,0,0)).2.2≠v/\zFd (m.getD k (0,0,0)) (m.getD i (0,0,0)).2.2=true)):touch m v i k=true:=by
 unfold touch tch;simp only [zbA,zC,zP];exact h
theorem z3C {m:List P3} {v:Int} {i k:Nat} (h1:(m.getD i (0,0,0)).1=v\/zFd (m.getD k (0,0,0)) (m.getD i (0,0,0)).1=false) (h2:(m.getD i (0,0,0)).2.1=v\/zFd (m.getD k (0,0,0)) (m.getD i (0,0,0)).2.1=false)
 (h3:(m.getD i (0,0,0)).2.2=v\/zFd (m.getD k (0,0,0)) (m.getD i (0,0,0)).2.2=false): ¬ touch m v i k=true:=by
 have key: ∀ {w:Int} {u:P3},w=v\/zFd u w=false->¬ (w≠v/\zFd u w=true):=by
  rintro w u (h|h) ⟨a,b⟩
  ·exact a h
  ·rw [h] at b;cases b
 unfold touch tch;simp only [zbA,zC,zP];rintro (h|h|h)
 ·exact key h1 h
 ·exact key h2 h
 ·exact key h3 h
def zJZ (l:List P3) (v:Int):Spec Nat where
 inv i:=i<=l.length
 live i:=[(6,.s (.int .i64 i)),(5,.s (.own 1 0 (zAX (l.take i) v).length))]
 keep:=[1,2]
 heap i:=[(1,.row .arr3 86 (zAX (l.take i) v))]
 keepH:=[0]
 mu i:=l.length - i
def zIJ (m:List P3) (v:Int):Spec Nat where
 inv r:=r<=m.length
 live r:=[(45,.s (.int .i64 r))]
 keep:=[1,5,7,44]
 heap r:=[(2,.row .bool 4 (zF9 m v r))]
 keepH:=[1]
 mu r:=m.length - r
def zWX (m:List P3) (v:Int) (s:List Bool):Spec Nat where
 inv i:=i<=m.length
 live i:=[(8,.s (.int .i64 i))]
 keep:=[1,5,7,44,45]
 heap i:=[(2,.row .bool 4 (zGm m v s i))]
 keepH:=[1]
 mu i:=m.length - i
def zXn (m:List P3) (v:Int) (i:Nat) (s:List Bool):Spec Nat where
 inv k:=k<=m.length
 live k:=[(9,.s (.int .i64 k))]
 keep:=[1,5,7,8,44,45]
 heap k:=[(2,.row .bool 4 (zH5 m v i s k))]
 keepH:=[1]
 mu k:=m.length - k
def zXz (n:Nat) (s:List Bool):Spec Nat where
 inv i:=i<=n/\∀ j,j<i->s.getD j false=true
 live i:=[(12,.s (.int .i64 i))]
 keep:=[1,5,7]
 heap _:=[]
 keepH:=[1,2]
 mu i:=n - i
theorem zWC (n:Int) (l:List P3) (v:Int) (hl:l.length<=8192):zAG ⟨tyL,[(133,zQI)],[]⟩ f134 [qP.av (n,l),(ETy.int .i64).av v] (fun r=>r= .s (.bool (zFI l v))):=by
 repeat' (conv=>whnf
          first|done|refine qy ?_|refine qG fun _=> ?_|refine qw (fun _=> ?_) (fun _=> ?_)|apply qt|refine qi (fun _=> ?_) (fun _=> ?_)|(refine zaB 3 rfl (zJZ l v) (0) ?_ ?_ ?_ fun i hi=> ?_)|with_reducible refine zaA (zJZ _ _) (i+1) ?_ ?_ ?_ ?_|(refine zaB 12 rfl (zIJ (zAX (l.take i) v) v) (0) ?_ ?_ ?_ fun r hr=> ?_)|with_reducible refine zaA (zIJ _ _) (r+1) ?_ ?_ ?_ ?_|(refine zaB 14 rfl (zWX (zAX (l.take i) v) v (zF9 (zAX (l.take i) v) v r)) (0) ?_ ?_ ?_ fun x hx=> ?_)|with_reducible refine zaA (zWX _ _ _) (x+1) ?_ ?_ ?_ ?_|(refine zaB 17 rfl (zXn (zAX (l.take i) v) v x (zGm (zAX (l.take i) v) v (zF9 (zAX (l.take i) v) v r) x)) (0) ?_ ?_ ?_ fun k hk=> ?_)|with_reducible refine zaA (zXn _ _ _ _) (k+1) ?_ ?_ ?_ ?_|(refine zdg 21 rfl ?_;refine Or.inl (zB (4) ?_))|(refine zaB 28 rfl (zXz (zAX (l.take i) v).length (zF9 (zAX (l.take i) v) v r)) (0) ?_ ?_ ?_ fun y hy=> ?_)|with_reducible refine zaA (zXz _ _) (y+1) ?_ ?_ ?_ ?_|refine qu ?_|refine qv ?_ ?_|exact zO)
 all_goals try first|refine qz ?_|apply qz5
 all_goals try simp only [qn0,z7,zX,ETy.dflt,Int.reduceToNat,Int.reduceAdd,Int.reduceSub,Int.reduceNeg,Nat.reduceAdd,zJZ,zIJ,zWX,zXn,zXz] at *
 all_goals try (refine yJ.intro ?_;omega)
 all_goals try rfl
 all_goals try
  (have h:=zUC l v i
   refine yJ.intro ?_;omega)
 all_goals try (rw [zAq,pk,if_pos (Or.inl (by assumption))];done)
 all_goals try (rw [zAq,pk,if_pos (Or.inr (by assumption))];done)
 all_goals try (rw [zAq,pk,if_neg (zM2 (by assumption) (by assumption)),if_pos (z5Q (by first|exact .inl ⟨by assumption,by assumption⟩|exact .inr (.inl ⟨by assumption,by assumption⟩)|exact .inr (.inr ⟨by assumption,by assumption⟩)))];(try simp only [List.set_set]);done)
 all_goals try (rw [zAq,pk,if_neg (zM2 (by assumption) (by assumption)),if_neg (z3C (by first|exact .inl (by assumption)|exact .inr (by assumption)) (by first|exact .inl (by assumption)|exact .inr (by assumption)) (by first|exact .inl (by assumption)|exact .inr (by assumption)))];done)
 all_goals try
  (have e:k=(zAX (l.take i) v).length:=by omega
   rw [zCM,<- e];done)
 all_goals try
  (have e:x=(zAX (l.take i) v).length:=by omega
   rw [zBb,<- e];done)
 ·rw [zEx _ _ (by assumption),if_pos (by assumption)];simp
 ·rw [zEx _ _ (by assumption),if_pos (by assumption)]
 ·rw [zEx _ _ (by assumption),if_neg (by rw [‹zFd _ _=false›];decide)];simp
 ·rw [zEx _ _ (by assumption),if_neg (by rw [‹zFd _ _=false›];decide)];simp
 ·have e:l.take i=l:=zbT (by omega);rename_i h;rw [e] at h;have h:(zAX l v).length=0:=by omega
  unfold zFI;rw [h];rfl
 ·exact yJ.intro ⟨zbH _,fun j hj=>absurd hj (by omega)⟩
 ·refine yJ.intro ⟨by omega,fun j hj=> ?_⟩
  by_cases e:j=y
  ·subst e;assumption
  ·exact hy.2 j (by omega)
 all_goals
  have e:l.take i=l:=zbT (by omega);have er:r=(zAX (l.take i) v).length:=by omega
  rw [er] at hy;rw [e] at hy
 ·rename_i h;have hyl:y<(zAX l v).length:=by rw [<- e];omega
  rw [er,e] at h;unfold zFI;symm;rw [zbB,<- zbV,zJ];intro hh;rw [hh y (zV.2 hyl)] at h;cases h
 ·rename_i h;rw [e] at h;have hyl:(zAX l v).length<=y:=by omega
  unfold zFI;symm;rw [Bool.not_eq_false',zJ];intro j hj;exact hy.2 j (by have:=zV.1 hj;omega)
def zPi:List AV->Option Res:=zCr qP (.int .i64) (fun s v=>some (none,some (s.2.length<=8192),.s (.bool (zFI s.2 v))))
theorem zYT:qM prog 134 zPi:=mkR (jD fun s v r h=>by cases h;exact fb (by exact ⟨zPc,trivial⟩) func134 fun _ h=>zWC s.1 s.2 v h) func134
end S9
namespace S9
open S1
theorem zZ1 {l:List P3} {f:P3->Bool} {b z:Bool} {x:Nat} (hi:x<=l.length/\(b|| l.any f)=(z|| (l.drop x).any f)) (h:(x:Int)<l.length):x+1<=l.length/\(b|| l.any f)=(z|| f (l.getD x (0,0,0))|| (l.drop (x+1)).any f) :=
 ⟨by omega,by rw [hi.2,zBU (0,0,0) h,List.any_cons,Bool.or_assoc]⟩
theorem z59 {l:List P3} {f:P3->Bool} {b z:Bool} {x:Nat} (hi:x<=l.length/\(b|| l.any f)=(z|| (l.drop x).any f)) (h: ¬ (x:Int)<l.length):(b|| l.any f)=z:=by
 rw [hi.2,zE9 h];simp
@[irreducible] def zMi (t:P3):Bool:=t.1==t.2.1|| (t.2.1==t.2.2|| t.2.2==t.1)
def dgG (l:List P3) (i:Nat):Option Wit:=if zMi (l.getD i (0,0,0)) then some (2,(i:Int),0) else none
def dgL (l:List P3) (i:Nat):List Wit:=(List.range i).filterMap (dgG l)
def loG (l:List P3) (v:Nat):Option Wit:=if l.any (zFd · v) then none else some (5,(v:Int),0)
def loL (l:List P3) (v:Nat):List Wit:=(List.range v).filterMap (loG l)
def piG (l:List P3) (v:Nat):Option Wit:=if zFI l v then some (6,(v:Int),0) else none
def piL (l:List P3) (v:Nat):List Wit:=(List.range v).filterMap (piG l)
def allR (s:Int×List P3):List Wit :=
 if 0<(jF s).length then jF s else if 0<(dgL s.2 s.2.length).length then dgL s.2 s.2.length else if 0<(prO s.2 3 s.2.length).length then prO s.2 3 s.2.length else
 if 0<(prO s.2 4 s.2.length).length then prO s.2 4 s.2.length else if 0<(loL s.2 s.1.toNat).length then loL s.2 s.1.toNat else piL s.2 s.1.toNat
theorem q9 {α:Type _} (f:Nat->Option α) (i:Nat):(List.range (i+1)).filterMap f=(List.range i).filterMap f++(f i).toList:=by
 rw [List.range_succ,List.filterMap_append];simp only [List.filterMap_cons,List.filterMap_nil];cases f i<;>rfl
theorem zC7 {α:Type _} (f:Nat->Option α) (i:Nat):((List.range i).filterMap f).length<=i:=zb0 (List.length_filterMap_le _ _) (by simp)
theorem zF3 {s:Int×List P3} (h: ¬ ((jF s).length:Int)>0):zHN s=false/\jF s=[]:=by
 have h:(jF s).length=0:=by omega
 refine ⟨?_,List.eq_nil_of_length_eq_zero h⟩;cases hb:zHN s with
 | false=>rfl
 | true=>unfold jF at h;rw [hb] at h;simp at h
theorem zL7 {n:Int} {l:List P3} (h:zHN (n,l)=false):0<=n/\n<=4096/\l.length<=8192:=by
 simp only [zHN,Bool.or_eq_false_iff,yM] at h;omega
theorem zWp {t:P3} (h:t.1=t.2.1\/t.2.1=t.2.2\/t.2.2=t.1):zMi t=true:=by
 unfold zMi;simp only [zbA,beq_iff_eq];exact h
theorem zZ3 {t:P3} (h1:t.1≠t.2.1) (h2:t.2.1≠t.2.2) (h3:t.2.2≠t.1):zMi t=false:=by
 unfold zMi;rw [beq_false_of_ne h1,beq_false_of_ne h2,beq_false_of_ne h3];rfl
theorem z9a {l:List P3} {i:Nat} (h:zMi (l.getD i (0,0,0))=true):dgL l (i+1)=dgL l i++[(2,(i:Int),0)]:=by
 unfold dgL;rw [q9,dgG,if_pos h];rfl
theorem z98 {l:List P3} {i:Nat} (h:zMi (l.getD i (0,0,0))=false):dgL l (i+1)=dgL l i:=by
 unfold dgL;rw [q9,dgG,if_neg (by rw [h];decide)];simp
theorem z9N {l:List P3} {v:Nat} (h:(l.any (zFd · v))=true):loL l (v+1)=loL l v:=by
 unfold loL;rw [q9,loG,if_pos h];simp
theorem z95 {l:List P3} {v:Nat} (h:(l.any (zFd · v))=false):loL l (v+1)=loL l v++[(5,(v:Int),0)]:=by
 unfold loL;rw [q9,loG,if_neg (by rw [h];decide)];rfl
theorem z8t {l:List P3} {v:Nat} (h:zFI l v=true):piL l (v+1)=piL l v++[(6,(v:Int),0)]:=by
 unfold piL;rw [q9,piG,if_pos h];rfl
theorem z8a {l:List P3} {v:Nat} (h:zFI l v=false):piL l (v+1)=piL l v:=by
 unfold piL;rw [q9,piG,if_neg (by rw [h];decide)];simp
section
variable {n:Int} {l:List P3}
theorem z97 (h:((jF (n,l)).length:Int)>0):allR (n,l)=jF (n,l):=by
 unfold allR;rw [if_pos (by omega)]
theorem z9I (h1: ¬ ((jF (n,l)).length:Int)>0) {i:Nat} (hi:i=l.length) (h2:((dgL l i).length:Int)>0):allR (n,l)=dgL l i:=by
 subst hi;unfold allR;rw [if_neg (by omega),if_pos (by dsimp only;omega)]
theorem z8Z (h1: ¬ ((jF (n,l)).length:Int)>0) {i:Nat} (hi:i=l.length) (h2: ¬ ((dgL l i).length:Int)>0) (h3:((prO l 3 l.length).length:Int)>0):allR (n,l)=prO l 3 l.length:=by
 subst hi;unfold allR;rw [if_neg (by omega),if_neg (by dsimp only;omega),if_pos (by dsimp only;omega)]
theorem z9E (h1: ¬ ((jF (n,l)).length:Int)>0) {i:Nat} (hi:i=l.length) (h2: ¬ ((dgL l i).length:Int)>0) (h3: ¬ ((prO l 3 l.length).length:Int)>0) (h4:((prO l 4 l.length).length:Int)>0):allR (n,l)=prO l 4 l.length:=by
 subst hi;unfold allR;rw [if_neg (by omega),if_neg (by dsimp only;omega),if_neg (by dsimp only;omega),if_pos (by dsimp only;omega)]
theorem z88 (h1: ¬ ((jF (n,l)).length:Int)>0) {i:Nat} (hi:i=l.length) (h2: ¬ ((dgL l i).length:Int)>0) (h3: ¬ ((prO l 3 l.length).length:Int)>0) (h4: ¬ ((prO l 4 l.length).length:Int)>0) {v:Nat} (hv:v=n.toNat) (h5:((loL l v).length:Int)>0):allR (n,l)=loL l v:=by
 subst hi;subst hv;unfold allR;rw [if_neg (by omega),if_neg (by dsimp only;omega),if_neg (by dsimp only;omega),if_neg (by dsimp only;omega),if_pos (by dsimp only;omega)]
theorem z93 (h1: ¬ ((jF (n,l)).length:Int)>0) {i:Nat} (hi:i=l.length) (h2: ¬ ((dgL l i).length:Int)>0) (h3: ¬ ((prO l 3 l.length).length:Int)>0) (h4: ¬ ((prO l 4 l.length).length:Int)>0) {v:Nat} (hv:v=n.toNat) (h5: ¬ ((loL l v).length:Int)>0) {y:Nat} (hy:y=n.toNat):allR (n,l)=piL l y:=by
 subst hi;subst hv;subst hy;unfold allR;rw [if_neg (by omega),if_neg (by dsimp only;omega),if_neg (by dsimp only;omega),if_neg (by dsimp only;omega),if_neg (by dsimp only;omega)]
end
def zTg (l:List P3):Spec Nat where
 inv i:=i<=l.length
 live i:=[(4,.s (.int .i64 i)),(3,.s (.own 2 0 (dgL l i).length))]
 keep:=[1]
 heap i:=[(2,.row zB0 165 (dgL l i))]
 keepH:=[0]
 mu i:=l.length - i
def zTv (n:Int) (l:List P3):Spec Nat where
 inv v:=(v:Int)<=n
 live v:=[(6,.s (.int .i64 v)),(3,.s (.own 4 0 (loL l v).length))]
 keep:=[1]
 heap v:=[(4,.row zB0 165 (loL l v))]
 keepH:=[0]
 mu v:=n.toNat - v
def zUz (l:List P3) (v:Nat):Spec (Nat×Bool) where
 inv x:=x.1<=l.length/\(false|| l.any (zFd · v))=(x.2|| (l.drop x.1).any (zFd · v))
 live x:=[(8,.s (.int .i64 x.1)),(7,.s (.bool x.2))]
 keep:=[1,3,6]
 heap _:=[]
 keepH:=[0,4]
 mu x:=l.length - x.1
def zUu (n:Int) (l:List P3):Spec Nat where
 inv v:=(v:Int)<=n
 live v:=[(9,.s (.int .i64 v)),(3,.s (.own 4 0 (piL l v).length))]
 keep:=[1]
 heap v:=[(4,.row zB0 165 (piL l v))]
 keepH:=[0]
 mu v:=n.toNat - v
theorem z5R (n:Int) (l:List P3):zFB ⟨tyL,[(133,zQI),(134,zPi)],[(131,.res zQD),(132,.res zP3)]⟩ f92 [qP.av (n,l)] (fun v obs=>v= .s (.own 0 0 (allR (n,l)).length)/\obs=[.row zB0 165 (allR (n,l))]):=by
 repeat' (conv=>whnf
          first|done|refine qy ?_|refine qG fun _=> ?_|refine qw (fun _=> ?_) (fun _=> ?_)|apply qt|refine qi (fun _=> ?_) (fun _=> ?_)|(refine zaB 5 rfl (zTg l) (0) ?_ ?_ ?_ fun i hi=> ?_)|with_reducible refine zaA (zTg _) (i+1) ?_ ?_ ?_ ?_|(refine zaB 19 rfl (zTv n l) (0) ?_ ?_ ?_ fun v hv=> ?_)|with_reducible refine zaA (zTv _ _) (v+1) ?_ ?_ ?_ ?_|(refine zaB 23 rfl (zUz l v) ((0,false)) ?_ ?_ ?_ fun x hx=> ?_)|with_reducible refine zaA (zUz _ _) ((x.1+1,x.2|| zFd (l.getD x.1 (0,0,0)) v)) ?_ ?_ ?_ ?_|(refine zaB 31 rfl (zUu n l) (0) ?_ ?_ ?_ fun y hy=> ?_)|with_reducible refine zaA (zUu _ _) (y+1) ?_ ?_ ?_ ?_|refine qu ?_|refine qv ?_ ?_|exact zO)
 all_goals try first|refine qz ?_|apply qz5
 all_goals try simp only [qn0,z7,zX,ETy.dflt,Int.reduceToNat,Int.reduceAdd,Int.reduceSub,Int.reduceNeg,Nat.reduceAdd,zTg,zTv,zUz,zUu] at *
 all_goals try (refine yJ.intro ?_;omega)
 all_goals try
  (have hb:=zL7 (zF3 (s:=(n,l)) (by assumption)).1
   refine yJ.intro ?_;first|omega|(simp only [yP];omega))
 all_goals try
  (have hb:=zL7 (zF3 (s:=(n,l)) (by assumption)).1
   have h1:=zC7 (dgG l) i
   refine yJ.intro ?_;simp only [dgL,loL,piL];first|omega|(have h2:=zC7 (loG l) v;first|omega|(have h3:=zC7 (piG l) y;omega)))
 all_goals try first
  | rw [z97 (by assumption)]
  | rw [z9I (i:=i) (by assumption) (by omega) (by assumption)]
  | rw [z8Z (i:=i) (by assumption) (by omega) (by assumption) (by assumption)]
  | rw [z9E (i:=i) (by assumption) (by omega) (by assumption) (by assumption) (by assumption)]
  | rw [z88 (i:=i) (v:=v) (by assumption) (by omega) (by assumption) (by assumption) (by assumption) (by omega) (by assumption)]
  | rw [z93 (i:=i) (v:=v) (y:=y) (by assumption) (by omega) (by assumption) (by assumption) (by assumption) (by omega) (by assumption) (by omega)]
 all_goals try
  (have hd:zMi (l.getD i (0,0,0))=true:=zWp (by omega)
   rw [z9a hd];(try simp only [zN,List.length_singleton]);done)
 all_goals try
  (have hd:zMi (l.getD i (0,0,0))=false:=zZ3 (by omega) (by omega) (by omega)
   rw [z98 hd];done)
 all_goals try (rw [(zF3 (s:=(n,l)) (by assumption)).2];rfl)
 all_goals try (rw [List.eq_nil_of_length_eq_zero (l:=prO l 4 l.length) (by omega)];rfl)
 all_goals try (rw [List.eq_nil_of_length_eq_zero (l:=loL l v) (by omega)];rfl)
 all_goals try first
  | exact yJ.intro ⟨zbH _,rfl⟩
  | exact yJ.intro (zZ1 hx (by assumption))
  | (simp only [*];done)
  | (simp only [*];simp;done)
 all_goals try (rw [z8a (by assumption)];done)
 all_goals try (rw [z8t (by assumption)];(try simp only [zN,List.length_singleton]);done)
 all_goals
  have hu:=z59 hx (by assumption);rw [Bool.false_or] at hu
 all_goals first
  | (rw [z9N (hu.trans (by assumption))];done)
  | (rw [z95 (hu.trans (by assumption))];(try simp only [zN,List.length_singleton]);done)
def z4J:List AV->Option zKQ:=zEz qP (fun s=>some (none,none,.s (.own 0 0 (allR s).length),[.row zB0 165 (allR s)]))
theorem z3s:zDM prog 92 z4J:=zaw (zCC fun s r h=>by cases h;exact fbF (by exact ⟨zPc,zYT,trivial⟩) func92 (p2:=by exact ⟨zVF,zXe,trivial⟩) fun _ _=>z5R s.1 s.2) func92
def zPa (s:Int×List P3):Bool:=(allR s).length==0
theorem z0k (s:Int×List P3):zAG ⟨tyL,[],[(92,.res z4J)]⟩ f53 [qP.av s] (fun v=>v= .s (.bool (zPa s))):=by
 repeat' (conv=>whnf
          first|done|refine qy ?_|refine qG fun _=> ?_|refine qw (fun _=> ?_) (fun _=> ?_)|apply qt|refine qi (fun _=> ?_) (fun _=> ?_)|refine qu ?_|refine qv ?_ ?_|exact zO)
 all_goals try first|refine qz ?_|apply qz5
 all_goals try simp only [qn0,z7,zX,ETy.dflt,Int.reduceToNat,Int.reduceAdd,Int.reduceSub,Int.reduceNeg,Nat.reduceAdd,zPa] at *
 rw [Bool.eq_iff_iff,beq_iff_eq,beq_iff_eq];omega
def zVn:List AV->Option Res:=zEz qP (fun s=>some (none,none,.s (.bool (zPa s))))
theorem z13:qM prog 53 zVn:=mkR (zA1 fun s r h=>by cases h;exact fb (fn:=[]) trivial func53 (p2:=by exact ⟨z3s,trivial⟩) fun _ _=>z0k s) func53
end S9
namespace S9
open S1
theorem zCd {t:P3} {v:Int} :zFd t v=true↔z8 t v:=by
 unfold zFd z8;simp only [zbA,beq_iff_eq]
theorem zYP {t:P3} {a b:Int} :zOj t a b=true↔dE t a b:=by
 unfold zOj dE;simp only [zbA,zC,beq_iff_eq]
theorem zKF {t u:P3} :zJb t u=true↔∃ a b,dE t a b/\dE u a b:=by
 unfold zJb;simp only [zbA,zYP];constructor
 ·rintro (h|h|h)
  ·exact ⟨_,_,.inl ⟨rfl,rfl⟩,h⟩
  ·exact ⟨_,_,.inr (.inl ⟨rfl,rfl⟩),h⟩
  ·exact ⟨_,_,.inr (.inr ⟨rfl,rfl⟩),h⟩
 ·rintro ⟨a,b,(⟨rfl,rfl⟩|⟨rfl,rfl⟩|⟨rfl,rfl⟩),h⟩
  ·exact .inl h
  ·exact .inr (.inl h)
  ·exact .inr (.inr h)
theorem zLH {n:Int} : ∀ {l:List P3} {i:Nat},zHq n i l=[]↔∀ t∈l,zCm n t=true
 | [],_=>⟨fun _ t h=>(by cases h),fun _=>rfl⟩
 | t ::r,i=>by
   unfold zHq;split
   ·rename_i h;rw [zLH]
    exact ⟨fun k u hu=>by
     rcases zT.1 hu with e|hu
     ·rw [e];exact h
     ·exact k u hu,fun k u hu=>k u (zQ _ hu)⟩
   ·rename_i h;exact ⟨fun k=>(by cases k),fun k=>absurd (k t (zY ..)) h⟩
theorem zSC {l:List P3} {p:P3->Prop} :(∀ t∈l,p t)↔∀ i,i<l.length->p (tg l i):=by
 constructor
 ·intro h i hi;unfold tg;rw [zR,zG hi];exact h _ (yQ hi)
 ·intro h t ht;obtain ⟨i,hi,e⟩:=yG.1 ht;have:=h i hi;unfold tg at this;rw [zR,zG hi] at this;rw [<- e];exact this
theorem z1c {s:Int×List P3} :jF s=[]↔zMc s:=by
 obtain ⟨n,l⟩:=s;unfold jF;constructor
 ·intro h;cases hb:zHN (n,l) with
  | true=>rw [hb] at h;cases h
  | false =>
    rw [hb] at h;have h:zHq n 0 l=[]:=h;have:=zL7 hb;exact ⟨this.1,this.2.1,this.2.2,zSC.1 (zLH.1 h)⟩
 ·intro h;have h1:0<=n:=h.1;have h2:n<=4096:=h.2.1;have h3:l.length<=8192:=h.2.2.1
  have hb:zHN (n,l)=false:=by
   unfold zHN;simp only [Bool.or_eq_false_iff,yM];omega
  rw [hb];exact zLH.2 (zSC.2 h.2.2.2)
theorem z4x {l:List P3} :dgL l l.length=[]↔∀ i,i<l.length->¬ dgn (tg l i):=by
 unfold dgL;rw [zbO];constructor
 ·intro h i hi e;have:=h i (zV.2 hi);unfold dgG at this;rw [if_pos (zWp e)] at this;cases this
 ·intro h i hi;have h:=h i (zV.1 hi);unfold dgn at h;unfold dgG;rw [if_neg ?_];rw [zZ3 (fun e=>h (.inl e)) (fun e=>h (.inr (.inl e))) (fun e=>h (.inr (.inr e)))];simp
theorem zXV {l:List P3} {k:Int} :prO l k l.length=[]↔∀ i j,i<j->j<l.length->ptR k (tg l i) (tg l j)=false:=by
 unfold prO prI;rw [List.flatMap_eq_nil_iff];constructor
 ·intro h i j hij hj;have:=zbO.1 (h j (zV.2 hj)) i (zV.2 hij);unfold prG at this;split at this
  ·cases this
  ·rename_i e;rw [<- zbV];exact e
 ·intro h j hj;refine zbO.2 fun i hi=> ?_;unfold prG;rw [if_neg (by rw [h i j (zV.1 hi) (zV.1 hj)];simp)]
theorem pt3 {t u:P3} :ptR 3 t u=zJb t u:=by unfold ptR;simp
theorem pt4 {t u:P3} :ptR 4 t u=(zFd u t.1&&(zFd u t.2.1&&zFd u t.2.2)):=by unfold ptR;simp
theorem z4g {l:List P3} {n:Nat} :loL l n=[]↔∀ v:Nat,v<n->∃ j,j<l.length/\z8 (tg l j) v:=by
 unfold loL;rw [zbO]
 have key: ∀ v:Nat,l.any (zFd · v)=true↔∃ j,j<l.length/\z8 (tg l j) v:=fun v=>by
  rw [zbz];constructor
  ·rintro ⟨t,ht,hv⟩;obtain ⟨i,hi,e⟩:=yG.1 ht;refine ⟨i,hi,?_⟩;unfold tg;rw [zR,zG hi];exact zCd.1 (by rw [<- e] at hv;exact hv)
  ·rintro ⟨j,hj,h⟩;unfold tg at h;rw [zR,zG hj] at h;exact ⟨_,yQ hj,zCd.2 h⟩
 constructor
 ·intro h v hv;have:=h v (zV.2 hv);unfold loG at this;split at this
  ·rename_i e;exact (key v).1 e
  ·cases this
 ·intro h v hv;unfold loG;rw [if_pos ((key v).2 (h v (zV.1 hv)))]
theorem zJW {m:List P3} {v:Int} {i k:Nat} :touch m v i k=true↔∃ w,w≠v/\z8 (tg m i) w/\z8 (tg m k) w:=by
 unfold touch tch;simp only [zbA,zC,zP,zCd];constructor
 ·rintro (⟨h1,h2⟩|⟨h1,h2⟩|⟨h1,h2⟩)
  ·exact ⟨_,h1,.inl rfl,h2⟩
  ·exact ⟨_,h1,.inr (.inl rfl),h2⟩
  ·exact ⟨_,h1,.inr (.inr rfl),h2⟩
 ·rintro ⟨w,h1,(h2|h2|h2),h3⟩
  ·subst h2;exact .inl ⟨h1,h3⟩
  ·subst h2;exact .inr (.inl ⟨h1,h3⟩)
  ·subst h2;exact .inr (.inr ⟨h1,h3⟩)
section
variable {m:List P3} {v:Int}
theorem zEo {s:List Bool} {k j:Nat} :(s.set k true).getD j false=if k=j/\j<s.length then true else s.getD j false:=by
 rw [zR,zbQ,zR]
 by_cases e:k=j
 ·subst e
  by_cases h:k<s.length
  ·simp [h]
  ·simp [h]
 ·simp [e]
theorem z6R {i k:Nat} {s:List Bool} :(pk m v i s k).length=s.length:=by
 unfold pk;split
 ·rfl
 ·split
  ·rw [zbY]
  ·rfl
theorem zPF {i k j:Nat} {s:List Bool} (h:s.getD j false=true):(pk m v i s k).getD j false=true:=by
 unfold pk;split
 ·exact h
 ·split
  ·rw [zEo];split
   ·rfl
   ·exact h
  ·exact h
theorem zGL {i:Nat} {s:List Bool} : ∀ k,(zH5 m v i s k).length=s.length
 | 0=>rfl
 | k+1=>by rw [zAq,z6R,zGL k]
theorem zGY {s:List Bool} : ∀ i,(zGm m v s i).length=s.length
 | 0=>rfl
 | i+1=>by rw [zCM,zGL,zGY i]
theorem zIu: ∀ r,(zF9 m v r).length=m.length
 | 0=>by show ((List.replicate m.length false).set 0 true).length=_;simp
 | r+1=>by rw [zBb,zGY,zIu r]
theorem zEq {i j:Nat} {s:List Bool} (h:s.getD j false=true): ∀ k,(zH5 m v i s k).getD j false=true
 | 0=>h
 | k+1=>by rw [zAq];exact zPF (zEq h k)
theorem zEg {j:Nat} {s:List Bool} (h:s.getD j false=true): ∀ i,(zGm m v s i).getD j false=true
 | 0=>h
 | i+1=>by rw [zCM];exact zEq (zEg h i) _
theorem zOa {i k:Nat} {s:List Bool} (hi:s.getD i false=true) (ht:touch m v i k=true) (hk:k<s.length): ∀ n,k<n->(zH5 m v i s n).getD k false=true
 | n + 1,h=>by
   rw [zAq]
   by_cases e:k=n
   ·subst e;have h1:=zEq (m:=m) (v:=v) (i:=i) hi k;cases h2:(zH5 m v i s k).getD k false with
    | true=>exact zPF h2
    | false =>
      unfold pk;rw [if_neg (zM2 h1 h2),if_pos ht,zEo,if_pos ⟨rfl,by rw [zGL];exact hk⟩]
   ·exact zPF (zOa hi ht hk n (by omega))
theorem zNi {i k:Nat} {s:List Bool} (hi:s.getD i false=true) (ht:touch m v i k=true) (hk:k<s.length) (hm:k<m.length): ∀ n,i<n->(zGm m v s n).getD k false=true
 | n +1,h=>by
   rw [zCM]
   by_cases e:i=n
   ·subst e;exact zOa (zEg hi i) ht (by rw [zGY];exact hk) _ hm
   ·exact zEq (zNi hi ht hk hm n (by omega)) _
def Clo (m:List P3) (v:Int) (s:List Bool):Prop:= ∀ i k,i<m.length->k<m.length->s.getD i false=true->touch m v i k=true->s.getD k false=true
def z16 (m:List P3) (s:List Bool):Nat:=((List.range m.length).filter fun j=> !s.getD j false).length
theorem z6q {i k:Nat} {s:List Bool} (h:Clo m v s) (hi:i<m.length) (hk:k<m.length):pk m v i s k=s:=by
 unfold pk;split
 ·rfl
 ·rename_i hn;split
  ·rename_i ht;have h1:s.getD i false=true:=by cases e:s.getD i false with|true=>rfl|false=>exact absurd (.inl e) hn
   exact absurd (.inr (h i k hi hk h1 ht)) hn
  ·rfl
theorem zN0 {i:Nat} {s:List Bool} (h:Clo m v s) (hi:i<m.length): ∀ k,k<=m.length->zH5 m v i s k=s
 | 0,_=>rfl
 | k+1,hk=>by rw [zAq,zN0 h hi k (by omega),z6q h hi (by omega)]
theorem zIT {s:List Bool} (h:Clo m v s): ∀ i,i<=m.length->zGm m v s i=s
 | 0,_=>rfl
 | i+1,hi=>by rw [zCM,zIT h i (by omega),zN0 h (by omega) _ (zI _)]
theorem zYV {s:List Bool} (hl:s.length=m.length):Clo m v s\/z16 m (zGm m v s m.length)+1<=z16 m s:=by
 by_cases h:Clo m v s
 ·exact .inl h
 ·right;unfold Clo at h
  have: ∃ i k,i<m.length/\k<m.length/\s.getD i false=true/\touch m v i k=true/\s.getD k false=false:=by
   refine yF fun hn=>h fun i k hi hk h1 h2=> ?_;cases e:s.getD k false with
   | true=>rfl
   | false=>exact absurd ⟨i,k,hi,hk,h1,h2,e⟩ hn
  obtain ⟨i,k,hi,hk,h1,h2,h3⟩:=this;unfold z16;refine zKx (a:=k) (fun j hj=> ?_) (by rw [h3];rfl) (by rw [zNi h1 h2 (by rw [hl];exact hk) hk _ hi];simp) (zV.2 hk);cases e:s.getD j false with
  | false=>rfl
  | true=>rw [zEg e] at hj;exact absurd hj (by simp)
theorem zK8 (hm:0<m.length): ∀ r,Clo m v (zF9 m v r)\/z16 m (zF9 m v r)+r+1<=m.length
 | 0=>by
   right;have h0:((List.replicate m.length false).set 0 true).getD 0 false=true:=by rw [zEo,if_pos ⟨rfl,by simpa using hm⟩]
   have:=zKx (p:=fun _:Nat=>true) (q:=fun j=> !((List.replicate m.length false).set 0 true).getD j false) (fun _ _=>rfl) (a:=0) rfl (by rw [h0];simp) (l:=List.range m.length) (zV.2 hm);have e:((List.range m.length).filter fun _:Nat=>true).length=m.length:=by rw [List.filter_eq_self.2 (fun _ _=>rfl),zAD]
   show ((List.range m.length).filter fun j=> !((List.replicate m.length false).set 0 true).getD j false).length+0+1<=_;rw [e] at this;omega
 | r +1=>by
   rcases zK8 hm r with h|h
   ·left;rw [zBb,zIT h _ (zI _)];exact h
   ·rcases zYV (m:=m) (v:=v) (zIu (m:=m) (v:=v) r) with h'|h'
    ·left;rw [zBb,zIT h' _ (zI _)];exact h'
    ·right;rw [zBb];omega
theorem zUi (hm:0<m.length):Clo m v (zF9 m v m.length):=by
 rcases zK8 (v:=v) hm m.length with h|h
 ·exact h
 ·omega
theorem zKd (hm:0<m.length): ∀ r,(zF9 m v r).getD 0 false=true
 | 0=>by
   show ((List.replicate m.length false).set 0 true).getD 0 false=true;rw [zEo,if_pos ⟨rfl,by simpa using hm⟩]
 | r+1=>by rw [zBb];exact zEg (zKd hm r) _
theorem z9U {Q:Nat->Prop} (hc: ∀ i k,k<m.length->Q i->touch m v i k=true->Q k) {i k:Nat} {s:List Bool} (hl:s.length=m.length) (h: ∀ j,s.getD j false=true->Q j): ∀ j,(pk m v i s k).getD j false=true->Q j:=by
 unfold pk;split
 ·exact h
 ·rename_i hn;split
  ·rename_i ht;intro j hj;rw [zEo] at hj;split at hj
   ·rename_i e;obtain ⟨rfl,e2⟩:=e;refine hc i _ (by rw [<- hl];exact e2) (h i ?_) ht;cases e:s.getD i false with|true=>rfl|false=>exact absurd (.inl e) hn
   ·exact h j hj
  ·exact h
theorem zRS {Q:Nat->Prop} (hc: ∀ i k,k<m.length->Q i->touch m v i k=true->Q k) {i:Nat} {s:List Bool} (hl:s.length=m.length) (h: ∀ j,s.getD j false=true->Q j): ∀ k j,(zH5 m v i s k).getD j false=true->Q j
 | 0=>h
 | k+1=>by rw [zAq];exact z9U hc (by rw [zGL];exact hl) (zRS hc hl h k)
theorem zRI {Q:Nat->Prop} (hc: ∀ i k,k<m.length->Q i->touch m v i k=true->Q k) {s:List Bool} (hl:s.length=m.length) (h: ∀ j,s.getD j false=true->Q j): ∀ i j,(zGm m v s i).getD j false=true->Q j
 | 0=>h
 | i+1=>by rw [zCM];exact zRS hc (by rw [zGY];exact hl) (zRI hc hl h i) _
theorem zSV {Q:Nat->Prop} (hc: ∀ i k,k<m.length->Q i->touch m v i k=true->Q k) (h:Q 0): ∀ r j,(zF9 m v r).getD j false=true->Q j
 | 0 =>fun j hj=>by
   have hj:((List.replicate m.length false).set 0 true).getD j false=true:=hj;rw [zEo] at hj;split at hj
   ·rename_i e;rw [<- e.1];exact h
   ·rw [zR,zbI] at hj;split at hj<;>cases hj
 | r+1=>by rw [zBb];exact zRI hc (zIu r) (zSV hc h r) _
end
theorem zDS {l:List P3} {v:Int} {t:P3} :t∈zAX l v↔∃ i,i<l.length/\tg l i=t/\z8 t v:=by
 unfold zAX;rw [zb5,zCd];constructor
 ·rintro ⟨ht,hv⟩;obtain ⟨i,hi,e⟩:=yG.1 ht;exact ⟨i,hi,by unfold tg;rw [zR,zG hi];exact e,hv⟩
 ·rintro ⟨i,hi,e,hv⟩;unfold tg at e;rw [zR,zG hi] at e;have e:l[i]=t:=e;exact ⟨by rw [<- e];exact yQ hi,hv⟩
theorem qI {m:List P3} {j:Nat} (h:j<m.length):tg m j∈m:=by
 unfold tg;rw [zR,zG h];exact yQ h
theorem zAO {m:List P3} {t:P3} (h:t∈m): ∃ j,j<m.length/\tg m j=t:=by
 obtain ⟨i,hi,e⟩:=yG.1 h;exact ⟨i,hi,by unfold tg;rw [zR,zG hi];exact e⟩
theorem other {t:P3} {v:Int} (hd: ¬ dgn t): ∃ w,w≠v/\z8 t w:=by
 unfold dgn at hd
 by_cases h:t.1=v
 ·exact ⟨t.2.1,by omega,.inr (.inl rfl)⟩
 ·exact ⟨t.1,h,.inl rfl⟩
theorem zNF {l:List P3} {v:Int} (hd: ∀ i,i<l.length->¬ dgn (tg l i)):zFI l v=false↔z6C l v:=by
 unfold zFI;rw [Bool.not_eq_false',zJ];constructor
 ·intro h Q hQ a ha hva hQa i hi hvi;have hpos:0<(zAX l v).length:=List.length_pos_of_mem (zDS.2 ⟨a,ha,rfl,hva⟩)
  have key: ∀ R:Nat->Prop,(∀ i j:Nat,i<l.length->j<l.length->z8 (tg l i) v->z8 (tg l j) v->(∃ w:Int,w≠v/\z8 (tg l i) w/\z8 (tg l j) w)->R i->R j)->
   (∃ z,z<l.length/\tg l z=tg (zAX l v) 0/\z8 (tg l z) v/\R z)->∀ i,i<l.length->z8 (tg l i) v->R i:=fun R hR ⟨z,hz,ez,hzv,hRz⟩ i hi hvi=>by
   have hin:=zSV (m:=zAX l v) (v:=v) (Q:=fun j=>j<(zAX l v).length/\∀ i,i<l.length->tg l i=tg (zAX l v) j->z8 (tg l i) v->R i) (fun j k hk hj ht=>⟨hk,fun i hi ei hvi=>by
    obtain ⟨w,hw,h1,h2⟩:=zJW.1 ht;obtain ⟨i',hi',ei',hvi'⟩:=zDS.1 (qI hj.1)
    exact hR i' i hi' hi (by rw [ei'];exact hvi') hvi ⟨w,hw,by rw [ei'];exact h1,by rw [ei];exact h2⟩ (hj.2 i' hi' ei' (by rw [ei'];exact hvi'))⟩)
    ⟨hpos,fun i hi ei hvi=>by
      obtain ⟨w,hw,h1⟩:=other (v:=v) (hd z hz)
      exact hR z i hz hi hzv hvi ⟨w,hw,h1,by rw [ei,<- ez];exact h1⟩ hRz⟩ (zAX l v).length
   obtain ⟨j,hj,ej⟩:=zAO (zDS.2 ⟨i,hi,rfl,hvi⟩);exact (hin j (h j (zV.2 hj))).2 i hi ej.symm hvi
  obtain ⟨z,hz,ez,hzv⟩:=zDS.1 (qI hpos)
  by_cases hq:Q z
  ·exact key Q hQ ⟨z,hz,ez,by rw [ez];exact hzv,hq⟩ i hi hvi
  ·exact absurd hQa (key (fun i=> ¬ Q i) (fun i j hi hj h1 h2 ⟨w,h3,h4,h5⟩ hn hq=>hn (hQ j i hj hi h2 h1 ⟨w,h3,h5,h4⟩ hq)) ⟨z,hz,ez,by rw [ez];exact hzv,hq⟩ a ha hva)
 ·intro h j hj;have hj:=zV.1 hj;have hpos:0<(zAX l v).length:=by omega
  have hc:=zUi (m:=zAX l v) (v:=v) hpos;have hz:=zKd (m:=zAX l v) (v:=v) hpos (zAX l v).length;obtain ⟨z,hz1,hz2,hz3⟩:=zDS.1 (qI hpos);obtain ⟨i,hi1,hi2,hi3⟩:=zDS.1 (qI hj)
  have:=h (fun i=> ∃ j,j<(zAX l v).length/\tg (zAX l v) j=tg l i/\(zF9 (zAX l v) v (zAX l v).length).getD j false=true) (fun a b ha hb hva hvb ⟨w,hw,h1,h2⟩ ⟨j,hj,e,hs⟩=>by
   obtain ⟨k,hk,ek⟩:=zAO (zDS.2 ⟨b,hb,rfl,hvb⟩)
   exact ⟨k,hk,ek,hc j k hj hk hs (zJW.2 ⟨w,hw,by rw [e];exact h1,by rw [ek];exact h2⟩)⟩) z hz1 (by rw [hz2];exact hz3) ⟨0,hpos,hz2.symm,hz⟩ i hi1 (by rw [hi2];exact hi3)
  obtain ⟨k,hk,ek,hs⟩:=this;obtain ⟨w,hw,h1⟩:=other (v:=v) (hd i hi1);exact hc k j hk hj hs (zJW.2 ⟨w,hw,by rw [ek];exact h1,by rw [<- hi2];exact h1⟩)
theorem zWG {l:List P3} {n:Nat} (hd: ∀ i,i<l.length->¬ dgn (tg l i)):piL l n=[]↔∀ v:Nat,v<n->z6C l v:=by
 unfold piL;rw [zbO];constructor
 ·intro h v hv;have:=h v (zV.2 hv);unfold piG at this;split at this
  ·cases this
  ·rename_i e;exact (zNF hd).1 (by rw [<- zbV];exact e)
 ·intro h v hv;unfold piG;rw [if_neg (by rw [(zNF hd).2 (h v (zV.1 hv))];simp)]
theorem zZh (s:Int×List P3):allR s=[]↔(jF s=[]/\dgL s.2 s.2.length=[]/\prO s.2 3 s.2.length=[]/\prO s.2 4 s.2.length=[]/\loL s.2 s.1.toNat=[]/\piL s.2 s.1.toNat=[]):=by
 unfold allR;constructor
 ·intro h
  repeat' split at h
  all_goals first
   | (rename_i hh;rw [h] at hh;exact absurd hh (by decide))
   | skip
  rename_i h1 h2 h3 h4 h5;exact ⟨zbh.1 (by omega),zbh.1 (by omega),zbh.1 (by omega),zbh.1 (by omega),zbh.1 (by omega),h⟩
 ·rintro ⟨h1,h2,h3,h4,h5,h6⟩;simp [h1,h2,h3,h4,h5,h6]
theorem zTb (s:Int×List P3):zPa s=true↔zBK s:=by
 unfold zPa;rw [beq_iff_eq,zbh,zZh,z1c,z4x,zXV,zXV,z4g];constructor
 ·rintro ⟨hf,hd,h3,h4,hu,hp⟩;have h0:0<=s.1:=hf.1;refine ⟨hf,hd,fun i j hij hj a b h1 h2=> ?_,fun i j hij hj h=> ?_,fun v hv=>hu v (by omega),fun v hv=>(zWG hd).1 hp v (by omega)⟩
  ·have:=h3 i j hij hj;rw [pt3] at this;rw [zKF.2 ⟨a,b,h1,h2⟩] at this;cases this
  ·have:=h4 i j hij hj;rw [pt4,zCd.2 h.1,zCd.2 h.2.1,zCd.2 h.2.2] at this;cases this
 ·intro h;have h0:0<=s.1:=h.fit.1;refine ⟨h.fit,h.deg,fun i j hij hj=> ?_,fun i j hij hj=> ?_,fun v hv=>h.use v (by omega),(zWG h.deg).2 fun v hv=>h.pin v (by omega)⟩
  ·rw [pt3,<- zbV];intro e;obtain ⟨a,b,h1,h2⟩:=zKF.1 e;exact h.dif i j hij hj a b h1 h2
  ·rw [pt4,<- zbV];intro e;simp only [zC,zCd] at e;exact h.mir i j hij hj e
end S9
namespace S1
def zTo (n:Int) (t:P3):Prop:=(0<=t.1/\t.1<n)/\(0<=t.2.1/\t.2.1<n)/\(0<=t.2.2/\t.2.2<n)/\¬ dgn t
def zWd (n:Int) (l:List P3):Spec Nat where
 inv i:=i<=l.length/\∀ j,j<i->zTo n (l.getD j (0,0,0))
 live i:=[(3,.s (.int .i64 i))]
 keep:=[1,2]
 heap _:=[]
 keepH:=[0]
 mu i:=l.length - i
def zXJ (l:List P3):Spec Nat where
 inv i:=i<=l.length/\∀ j k,k<j->j<i->zQ9 (l.getD j (0,0,0)) (l.getD k (0,0,0))
 live i:=[(6,.s (.int .i64 i))]
 keep:=[1,2]
 heap _:=[]
 keepH:=[0]
 mu i:=l.length - i
def zWD (l:List P3) (i:Nat):Spec Nat where
 inv k:=k<=i/\∀ j,j<k->zQ9 (l.getD i (0,0,0)) (l.getD j (0,0,0))
 live k:=[(7,.s (.int .i64 k))]
 keep:=[1,2,6]
 heap _:=[]
 keepH:=[0]
 mu k:=i - k
def zTt (l:List P3) (i k:Nat):Spec Nat where
 inv p:=p<=3/\∀ a b,a<p->b<3->¬ shE (l.getD i (0,0,0)) (l.getD k (0,0,0)) a b
 live p:=[(9,.s (.int .i64 p)),(8,.s (.int .i64 (zLq (l.getD i (0,0,0)) (l.getD k (0,0,0)) p)))]
 keep:=[1,2,6,7]
 heap _:=[]
 keepH:=[0]
 mu p:=3 - p
def zXq (l:List P3) (i k p:Nat):Spec Nat where
 inv q:=q<=3/\∀ b,b<q->¬ shE (l.getD i (0,0,0)) (l.getD k (0,0,0)) p b
 live q:=[(10,.s (.int .i64 q))]
 keep:=[1,2,6,7,8,9]
 heap _:=[]
 keepH:=[0]
 mu q:=3 - q
def zX4 (n:Int) (l:List P3):Spec Nat where
 inv v:=(v:Int)<=max n 0/\∀ u:Nat,u<v->(zBZ l u).1≠0/\(zBZ l u).1=(zBZ l u).2
 live v:=[(11,.s (.int .i64 v))]
 keep:=[1,2]
 heap _:=[]
 keepH:=[0]
 mu v:=n.toNat - v
theorem zRR (s:SoT):isR s=true↔zBK s:=by
 unfold isR;rw [zP];exact ⟨fun h=>(zD9 s).1 (by rw [h]),fun h=>zQj ((zD9 s).2 h)⟩
theorem zNg {s:SoT} (h:zBK s->False):false=isR s:=by
 cases e:isR s with
 | false=>rfl
 | true=>exact (h ((zRR s).1 e)).elim
theorem z4b {s:SoT} (h:zBK s):true=isR s:=((zRR s).2 h).symm
theorem z9n:(Int.tmod 1 3).toNat=1:=rfl
theorem z9x:(Int.tmod 2 3).toNat=2:=rfl
theorem z9t:(Int.tmod 3 3).toNat=0:=rfl
theorem c30 (t:P3):zKl t 0=t.1:=rfl
theorem c31 (t:P3):zKl t 1=t.2.1:=rfl
theorem c32 (t:P3):zKl t 2=t.2.2:=rfl
theorem z7Z {n:Int} {l:List P3} (h:zBK (n,l)) {i:Nat} (hi:i<l.length):zTo n (l.getD i (0,0,0)):=by
 obtain ⟨a,b,c⟩:=zAH (h.fit.2.2.2 i hi);exact ⟨a,b,c,h.deg i hi⟩
theorem z9q (q:Nat):0<=((q:Int)+1).tmod 3/\((q:Int)+1).tmod 3<3:=by
 have e:((q:Int)+1).tmod 3=((q:Int)+1) % 3:=Int.tmod_eq_emod_of_nonneg (by omega);rw [e];omega
attribute [local irreducible] zLq zBZ isR
theorem z3V (n:Int) (l:List P3):zAG ⟨tyL,[(51,zI7),(52,zUm)],[]⟩ Tryz.f15 [qP.av (n,l)] (fun r=>r= .s (.bool (isR (n,l)))):=by
 repeat' (conv=>whnf
          first|done|refine qy ?_|refine qG fun _=> ?_|refine qw (fun _=> ?_) (fun _=> ?_)|apply qt|refine qi (fun _=> ?_) (fun _=> ?_)|(refine zaB 4 rfl (zWd n l) (0) ?_ ?_ ?_ fun i hi=> ?_)|with_reducible refine zaA (zWd _ _) (i+1) ?_ ?_ ?_ ?_|(refine zdg 8 rfl ?_;refine Or.inl (zB (4) ?_))|(refine zaB 13 rfl (zXJ l) (0) ?_ ?_ ?_ fun j hj=> ?_)|with_reducible refine zaA (zXJ _) (j+1) ?_ ?_ ?_ ?_|(refine zaB 16 rfl (zWD l j) (0) ?_ ?_ ?_ fun k hk=> ?_)|with_reducible refine zaA (zWD _ _) (k+1) ?_ ?_ ?_ ?_|(refine zaB 20 rfl (zTt l j k) (0) ?_ ?_ ?_ fun p hp=> ?_)|with_reducible refine zaA (zTt _ _ _) (p+1) ?_ ?_ ?_ ?_|(refine zaB 25 rfl (zXq l j k p) (0) ?_ ?_ ?_ fun q hq=> ?_)|with_reducible refine zaA (zXq _ _ _ _) (q+1) ?_ ?_ ?_ ?_|(refine zaB 32 rfl (zX4 n l) (0) ?_ ?_ ?_ fun v hv=> ?_)|with_reducible refine zaA (zX4 _ _) (v+1) ?_ ?_ ?_ ?_|refine qu ?_|refine qv ?_ ?_|exact zO)
 all_goals try first|refine qz ?_|apply qz5
 all_goals try simp only [qn0,z7,zX,ETy.dflt,Int.reduceToNat,Int.reduceAdd,Int.reduceSub,Int.reduceNeg,Nat.reduceAdd,zWd,zXJ,zWD,zTt,zXq,zX4,zXs,tmX,z9n,z9x,z9t,c30,c31,c32] at *
 all_goals try
  (refine zNg fun h=> ?_
   have h1:0<=n:=h.fit.1;have h2:n<=4096:=h.fit.2.1;have h3:l.length<=8192:=h.fit.2.2.1
   omega)
 all_goals try exact yJ.intro ⟨by decide,by decide⟩
 all_goals try exact yJ.intro (z9q _)
 all_goals try (refine yJ.intro (zA (zbH _) ?_);intros;omega)
 all_goals try (refine yJ.intro ?_;omega)
 all_goals have hi1:=hi.1
 all_goals try
  have hil:(i:Int)<l.length:=by assumption
  refine zNg fun h=> ?_;have ht:=z7Z h (i:=i) (by omega);unfold zTo dgn at ht;omega
 all_goals try
  have hil:(i:Int)<l.length:=by assumption
  refine yJ.intro (zA ?_ ?_)
  ·omega
  ·intro a ha
   by_cases e:a=i
   ·subst e;unfold zTo dgn;omega
   ·exact hi.2 a (by omega)
 all_goals try exact zKY _ _
 all_goals try
  (have hN:=zQS (l.getD j (0,0,0)) (l.getD k (0,0,0)) p
   refine yJ.intro ?_;unfold yP;omega)
 all_goals try
  (have a1:zKl (l.getD j (0,0,0)) p=zKl (l.getD k (0,0,0)) q:=by assumption
   have a2:zKl (l.getD j (0,0,0)) ((p+1) % 3)=zKl (l.getD k (0,0,0)) ((q+1) % 3):=by assumption
   exact zNg fun h=>(zNY h (i:=j) (k:=k) (by omega) (show j<l.length by omega)).1 p q (by omega) (by omega) ⟨a1,a2⟩)
 all_goals try
  (have hq2:=hq.2
   have a1: ¬ shE (l.getD j (0,0,0)) (l.getD k (0,0,0)) p q:=by
    rintro ⟨b1,b2⟩
    first|exact absurd b1 (by assumption)|exact absurd b2 (by assumption)
   refine yJ.intro (zA ?_ ?_)
   ·omega
   ·intro b hb
    by_cases e:b=q
    ·subst e;exact a1
    ·exact hq2 b (by omega))
 all_goals try
  (have hq2:=hq.2
   have hp2:=hp.2;have e3:q=3:=by omega
   refine yJ.intro (zA ?_ ?_)
   ·omega
   ·intro a b ha hb
    by_cases e:a=p
    ·subst e;exact hq2 b (by omega)
    ·exact hp2 a b (by omega) hb)
 all_goals try (rw [zDu,if_pos (zG2.1 (by assumption))];done)
 all_goals try (rw [zDu,if_neg (zP4.1 (by assumption))];done)
 all_goals try
  (have a1:zLq (l.getD j (0,0,0)) (l.getD k (0,0,0)) p=3:=by assumption
   have e3:p=3:=by omega
   rw [e3] at a1
   exact zNg fun h=>(zNY h (i:=j) (k:=k) (by omega) (show j<l.length by omega)).2 a1)
 all_goals try
  (have a1:zLq (l.getD j (0,0,0)) (l.getD k (0,0,0)) p≠3:=by assumption
   have e3:p=3:=by omega
   have hk2:=hk.2;have hp2:=hp.2;rw [e3] at a1 hp2;refine yJ.intro (zA ?_ ?_)
   ·omega
   ·intro a ha
    by_cases e:a=k
    ·subst e;exact ⟨fun x y hx hy=>hp2 x y hx hy,a1⟩
    ·exact hk2 a (by omega))
 all_goals try
  (have hk2:=hk.2
   have hj2:=hj.2;have e3:k=j:=by omega
   refine yJ.intro (zA ?_ ?_)
   ·omega
   ·intro a b hb ha
    by_cases e:a=j
    ·subst e;exact hk2 b (by omega)
    ·exact hj2 a b hb (by omega))
 all_goals try (refine yJ.intro (zA ?_ ?_)<;>first|omega|(intros;omega))
 all_goals try
  (have hv1:(v:Int)<n:=by assumption
   refine zNg fun h=> ?_;have hf:=zZt h (v:=v) hv1
   first
   | exact hf.1 (by assumption)
   | exact absurd hf.2 (by assumption))
 all_goals try
  (have hv1:(v:Int)<n:=by assumption
   have hv2:=hv.2;have b1:(zBZ l v).1≠0:=by assumption
   have b2:(zBZ l v).1=(zBZ l v).2:=by assumption
   refine yJ.intro (zA ?_ ?_)
   ·omega
   ·intro u hu
    by_cases e:u=v
    ·subst e;exact ⟨b1,b2⟩
    ·exact hv2 u (by omega))
 all_goals
  have e1:i=l.length:=by omega
  have e2:j=l.length:=by omega
  have hi2:=hi.2;have hj2:=hj.2;have hv2:=hv.2;have hv1:=hv.1;rw [e1] at hi2;rw [e2] at hj2;refine z4b (zWb (s:=(n,l)) (zA ?_ (zA ?_ (zA ?_ ?_))) ?_ ?_ ?_)
  ·show 0<=n;omega
  ·show n<=4096;omega
  ·show l.length<=8192;omega
  ·intro a ha;have k:=hi2 a ha;unfold zTo at k;exact zG0 (by show ¬ ((l.getD a (0,0,0)).1<0\/(l.getD a (0,0,0)).1>=n\/(l.getD a (0,0,0)).2.1<0\/(l.getD a (0,0,0)).2.1>=n\/(l.getD a (0,0,0)).2.2<0\/(l.getD a (0,0,0)).2.2>=n);omega)
  ·intro a ha;exact (hi2 a ha).2.2.2
  ·intro a b hb ha;exact hj2 a b hb ha
  ·intro u hu;have hu:(u:Int)<n:=hu;exact hv2 u (by omega)
def z42:List AV->Option Res:=zEz qP (fun s=>some (none,none,.s (.bool (isR s))))
theorem z4t:qM prog 15 z42:=mkR (zA1 fun s r h=>by cases h;exact fb (by exact ⟨zLs,zZk,trivial⟩) func15 fun _ _=>z3V s.1 s.2) func15
end S1
namespace S1
open S9
def zPO (a b:List P3):Spec Nat where
 inv x:=x<=a.length/\∀ i,i<x->a.getD i (0,0,0)=b.getD i (0,0,0)
 live x:=[(5,.s (.int .i64 x))]
 keep:=[2,3]
 heap _:=[]
 keepH:=[0,1]
 mu x:=a.length - x
theorem zTk {fn} (n m:Int) (a b:List P3) (hl:a.length<=100000):zAG ⟨tyL,fn,[]⟩ Tryz.f26 [qP.av (n,a),qP.av (m,b)] (fun v=>v= .s (.bool (eqS (n,a) (m,b)))):=by
 repeat' (conv=>whnf
          first|done|refine qy ?_|refine qG fun _=> ?_|refine qw (fun _=> ?_) (fun _=> ?_)|apply qt|refine qi (fun _=> ?_) (fun _=> ?_)|(refine zaB 4 rfl (zPO a b) (0) ?_ ?_ ?_ fun x hx=> ?_)|with_reducible refine zaA (zPO _ _) (x+1) ?_ ?_ ?_ ?_|refine qu ?_|refine qv ?_ ?_|exact zO)
 all_goals try first|refine qz ?_|apply qz5
 all_goals try simp only [qn0,z7,zX,ETy.dflt,Int.reduceToNat,Int.reduceAdd,Int.reduceSub,Int.reduceNeg,Nat.reduceAdd,zPO,eqS] at *
 all_goals try (refine yJ.intro ?_;omega)
 all_goals try exact yJ.intro ⟨zbH _,fun i hi=>by omega⟩
 all_goals try
  (symm;rw [yM];intro e;cases e;exact absurd rfl (by assumption))
 ·refine yJ.intro ⟨by omega,fun i hi=> ?_⟩
  by_cases e:i=x
  ·subst e;exact Prod.ext ‹_› (Prod.ext ‹_› ‹_›)
  ·exact hx.2 i (by omega)
 ·have e:a=b:=List.ext_getElem (by omega) fun i h1 h2=>by
   have:=hx.2 i (by omega);rwa [zR,zR,zG h1,zG h2] at this
  symm;rw [zP,e,show n=m by assumption]
def zIa:List AV->Option Res:=zCr qP qP (fun a b=>some (none,some (a.2.length<=100000),.s (.bool (eqS a b))))
theorem zOc:qM prog 26 zIa:=mkR (jD fun a b r h=>by cases h;exact fb (fn:=[]) trivial func26 fun _ h=>zTk a.1 b.1 a.2 b.2 h) func26
def zC9 (s:SoT) (l:EdB):Bool:=decide ((s.2.length:Int)>30)|| (decide (s.1>100)|| decide ((l.length:Int)>12))
theorem zS8 {fn} (n:Int) (a:List P3) (l:EdB):zAG ⟨tyL,fn,[]⟩ Tryz.f14 [qP.av (n,a),(ETy.sl .arr2).av l] (fun v=>v= .s (.bool (zC9 (n,a) l))):=by
 repeat' (conv=>whnf
          first|done|refine qy ?_|refine qG fun _=> ?_|refine qw (fun _=> ?_) (fun _=> ?_)|apply qt|refine qi (fun _=> ?_) (fun _=> ?_)|refine qu ?_|refine qv ?_ ?_|exact zO)
 all_goals try first|refine qz ?_|apply qz5
 all_goals try simp only [qn0,z7,zX,ETy.dflt,Int.reduceToNat,Int.reduceAdd,Int.reduceSub,Int.reduceNeg,Nat.reduceAdd,zC9] at *
 ·rw [decide_eq_true (by assumption)];rfl
 ·rw [decide_eq_false (by assumption),decide_eq_true (by assumption)];rfl
 ·rw [decide_eq_false (p:=(a.length:Int)>30) (by assumption),decide_eq_false (p:=n>100) (by assumption)];rfl
def zLm:List AV->Option Res:=zCr qP (.sl .arr2) (fun s l=>some (none,none,.s (.bool (zC9 s l))))
theorem zSf:qM prog 14 zLm:=mkR (jD fun s l r h=>by cases h;exact fb (fn:=[]) trivial func14 fun _ _=>zS8 s.1 s.2 l) func14
def j9:SoT:=(8,[(0,1,2),(2,1,3),(2,3,4),(4,3,5),(4,5,6),(6,5,7)])
theorem zZO {fn} :zAG ⟨tyL,fn,[]⟩ Tryz.f50 [] (fun v=>v=qP.av j9):=by
 repeat' (conv=>whnf
          first|done|refine qy ?_|refine qG fun _=> ?_|refine qw (fun _=> ?_) (fun _=> ?_)|apply qt|refine qi (fun _=> ?_) (fun _=> ?_)|refine qu ?_|refine qv ?_ ?_|exact zO)
 all_goals try first|refine qz ?_|apply qz5
 all_goals try simp only [qn0,z7,zX,ETy.dflt,Int.reduceToNat,Int.reduceAdd,Int.reduceSub,Int.reduceNeg,Nat.reduceAdd] at *
 exact y9.intro rfl
def z6e:List AV->Option Res
 | []=>some (none,none,qP.av j9)
 | _=>none
theorem zZy:qM prog 50 z6e:=⟨fun args r h=>by
 cases args with
 | nil=>cases h;exact fb (fn:=[]) trivial func50 fun _ _=>zZO
 | cons a l=>(cases h),_,func50,by kernel_rfl,by kernel_rfl⟩
theorem z1V (n:Int) (l:List P3) (x:yI.T) (hx:zHP (n,l)=some x) (hl:l.length<=40) (h9:zPa (n,l)=true):zAG ⟨tyL,[(53,zVn),(54,zKs x)],[]⟩ f16 [qP.av (n,l)] (fun v=>v=(ETy.pt yI).av (some x)):=by
 repeat' (conv=>whnf
          first|done|refine qy ?_|refine qG fun _=> ?_|refine qw (fun _=> ?_) (fun _=> ?_)|apply qt|refine qi (fun _=> ?_) (fun _=> ?_)|refine qu ?_|refine qv ?_ ?_|exact zO)
 all_goals try first|refine qz ?_|apply qz5
 all_goals try simp only [qn0,z7,zX,ETy.dflt,Int.reduceToNat,Int.reduceAdd,Int.reduceSub,Int.reduceNeg,Nat.reduceAdd] at *
 all_goals first
  | (exfalso;omega)
  | exact yJ.intro hx
  | exact absurd (show (S9.allR (n,l)).length=0 by have:=h9;unfold zPa at this;simpa using this) (by assumption)
  | exact y9.intro rfl
def z7U:List AV->Option Res:=zEz qP (fun s=>some (none,some (zBK s/\s.2.length<=40),(ETy.pt yI).av (some (zAa s))))
theorem z1t:qM prog 16 z7U:=mkR (zA1 fun s r h=>by
 cases h;cases e:zHP s with
 | none=>exact fun I vals w hag hv=>⟨trivial,fun hq=>absurd (zAu (show zBK s from hq.1)).1 (by rw [e];simp)⟩
 | some x =>
   rw [<- (zHj e).1]
   exact fb (fn:=[(53,zVn),(54,zKs x)]) ⟨z13,(zMB x),trivial⟩ func16 fun _ h=>z1V s.1 s.2 x e h.2 ((zTb s).2 h.1)) func16
end S1
namespace S1
open S9
theorem zV8 {s:SoT} (hs:zBK s):Full (zAa s)/\jV (InN (zAa s).1.1) (zAa s).1.2:=by
 obtain ⟨_,g,e⟩:=zAu hs;exact ⟨g,zAc (s:=(zAa s).1) (by rw [e];exact hs)⟩
theorem z9S {s:SoT} {l:EdB} (h:zFG s l) {r:SoT×List zAJ×Int} (e:doB s l=r):r.2.2=0/\r.2.1.length=l.length/\r.1.1=s.1 - l.length/\ChB s r.1 r.2.1/\okR r.2.1/\r.1.2.length<=s.2.length:=by
 have hE:zMh s l=0:=by
  unfold zMh;rw [if_pos ((zB4 _).2 h.surf),if_pos ((zGf h.surf).2 h)]
 rw [zSZ hE] at e;subst e;have d:=zFF h l.length (zI _);exact ⟨rfl,d.len,d.num,d.ch,d.ok,d.tri⟩
def z9r (x:yI.T) (a b:Int) (l:List Int):Int :=
 if !zAQ x a b then 1 else if (zDf x a b).length=2/\zAY x a=false/\zAY x b=false then 2
 else if zTH (zDf x a b) l=false then 3 else if zB2 x a then 4 else 0
theorem zTu (x:yI.T) (a b:Int):zDV x a b=z9r x a b (zGc x a b):=rfl
theorem zUc {x:yI.T} {a b:Int} {l0 l:List Int} (hne:a≠b) (hl:((zCz x a).filter fun v=>zDv v (zCz x b))=l0) (hp:l0.Perm l) (hs:l.Pairwise (·<=·)):zGc x a b=l:=by
 unfold zGc;rw [if_neg hne,hl];exact zMy ((zG9 _).trans hp) (zHB _) hs
def awL:EdB:=[(0,1),(7,6)]
def awM:EdB:=[(0,1),(3,2)]
theorem zEO:zBK j9:=(zD9 _).1 (by rw [z4T];decide +kernel)
theorem zYm:zDV (zAa j9) 0 1=0:=by
 rw [zTu,zUc (l0:=[2]) (l:=[2]) (by decide) (by decide +kernel) (.refl _) (by decide)];decide +kernel
theorem zVl:zDV (zAa j9) 7 6=0:=by
 rw [zTu,zUc (l0:=[5]) (l:=[5]) (by decide) (by decide +kernel) (.refl _) (by decide)];decide +kernel
theorem zXv:zFG j9 awL:=by
 obtain ⟨_,g,e⟩:=zAu zEO;have hm:jV (InN (zAa j9).1.1) (zAa j9).1.2:=zAc (s:=(zAa j9).1) (by rw [e];exact zEO);refine ⟨zEO,fun d hd=> ?_,?_⟩
 ·rw [<- e];rcases zT.1 hd with h|h
  ·rw [h];exact (zKH g hm).1 zYm
  ·rw [zF.1 h];exact (zKH g hm).1 zVl
 ·refine List.pairwise_cons.2 ⟨fun d hd=> ?_,List.pairwise_singleton _ _⟩;rw [zF.1 hd];exact zPn.1 (by decide +kernel)
theorem z1o:zMj (some (zAa j9)) awL=true:=(zGf zEO).2 zXv
theorem z7T:zMj (some (zAa j9)) awM=false:=by
 rw [<- zbV];intro h;have:=(List.pairwise_cons.1 ((zGf zEO).1 h).apart).1 (3,2) (zF.2 rfl) (2,1,3) (by decide) (.inr (by decide)) (.inl (by decide));exact this
theorem z8p:apB (zAa j9) (0,1) (7,6)=true:=by
 obtain ⟨_,g,e⟩:=zAu zEO;unfold apB;rw [show zAQ (zAa j9) (0,1).1 (0,1).2=true from (zQW zYm).1,show zAQ (zAa j9) (7,6).1 (7,6).2=true from (zQW zVl).1];exact (zW3 g).2 (by rw [e];exact zPn.1 (by decide +kernel))
theorem z9u:zMh j9 awL=0:=by
 unfold zMh;rw [if_pos ((zB4 _).2 zEO),if_pos z1o]
theorem z8q:z7x j9 awL 2:=zFF zXv 2 (zI _)
theorem z8G:(doK j9 awL 2).1.2.length=4:=by
 have h0:=zFF zXv 0 (zbH _);have s0:=zFT h0 (show 0<awL.length by decide);have s1:=zFT s0.2.2.2 (show 1<awL.length by decide);have e1:(doK j9 awL 1).1=zZv j9 0 1:=s0.2.1;have n7:zAV (doK j9 awL 1).2 7=6:=(s0.2.2.1 7 (show (0:Int)<=7 by decide)).1;have n6:zAV (doK j9 awL 1).2 6=5:=(s0.2.2.1 6 (show (0:Int)<=6 by decide)).1;have e2:(doK j9 awL 2).1=zZv (doK j9 awL 1).1 (zAV (doK j9 awL 1).2 7) (zAV (doK j9 awL 1).2 6):=s1.2.1
 rw [e2,e1,n7,n6];decide +kernel
theorem z9p {r:SoT×List zAJ×Int} (e:doB j9 awL=r):r.2.2=0/\r.2.1.length=2/\r.1.1=6/\r.1.2.length=4/\ChB j9 r.1 r.2.1:=by
 rw [zSZ z9u] at e;subst e;have h:=z8q;exact ⟨rfl,h.len,by show (doK j9 awL 2).1.1=6;rw [h.num];rfl,z8G,h.ch⟩
end S1
namespace S1
def zPE (S:SoT):List AV->Option Res
 | []=>some (none,some (S=j9),qP.av S)
 | _=>none
theorem zVQ (S:SoT):qM prog 50 (zPE S):=⟨fun args r h=>by
 cases args with
 | nil =>
   cases h;intro I vals w hag hv;refine ⟨trivial,fun hq=> ?_⟩;have hq:S=j9:=hq;subst hq;exact (zZy.1 [] _ rfl I vals w hag hv).2 trivial
 | cons a l=>(cases h),_,func50,by kernel_rfl,by kernel_rfl⟩
attribute [local irreducible] doB zBe eqS zMj apB zAa
theorem zSv (S:SoT) (hS:S=j9):zAG ⟨tyL,[(50,zPE S),(16,z7U),(24,z6P),(25,zY6 S),(17,zPe),(19,z7L),(26,zIa)],[]⟩ f13 [] (fun r=>r= .s (.bool true)):=by
 have m2:List.take 2 (List.drop 0 (((List.replicate 2 ((0:Int),(0:Int))).set 0 (0,1)).set 1 (7,6)))=awL:=rfl;have m3:(((List.replicate 2 ((0:Int),(0:Int))).set 0 (0,1)).set 1 (3,2))=awM:=rfl;have hs:zBK S:=by rw [hS];exact zEO
 have hl:List.length S.2=6:=by rw [hS];rfl
 obtain ⟨f1,f2,f3,f4,f5⟩:=z9p (r:=doB S awL) (by rw [hS]);have f5:ChB S (doB S awL).1 (doB S awL).2.1:=by have:=f5;rw [<- hS] at this;exact this
 have his1:zMj (some (zAa S)) awL=true:=by rw [hS];exact z1o
 have his2:zMj (some (zAa S)) awM=false:=by rw [hS];exact z7T
 have hap:apB (zAa S) (0,1) (7,6)=true:=by rw [hS];exact z8p
 have hg:=zV8 hs
 repeat' (conv=>whnf
          first|done|refine qy ?_|refine qG fun _=> ?_|refine qw (fun _=> ?_) (fun _=> ?_)|apply qt|refine qi (fun _=> ?_) (fun _=> ?_)|refine qu ?_|refine qv ?_ ?_|exact zO)
 all_goals try first|refine qz ?_|apply qz5
 all_goals try simp only [qn0,z7,zX,ETy.dflt,Int.reduceToNat,Int.reduceAdd,Int.reduceSub,Int.reduceNeg,Nat.reduceAdd] at *
 all_goals try simp only [m2,m3] at *
 all_goals first
  | exact yJ.intro ⟨hs,by rw [hl];decide⟩
  | exact yJ.intro ⟨hs,by decide⟩
  | exact yJ.intro ⟨f5,by rw [f2];decide,show List.length (doB S awL).1.2<=8192 by rw [f4];decide⟩
  | exact yJ.intro ⟨by decide,by decide⟩
  | exact yJ.intro (fun y h=>by cases h;exact hg.1.toGood)
  | exact yJ.intro ⟨fun y h=>by cases h;exact hg,by decide⟩
  | exact yJ.intro (show List.length S.2<=100000 by rw [hl];decide)
  | exact zHy _
  | (have h:zMj (some (zAa S)) awM=true:=by assumption
     rw [his2] at h;cases h)
  | (have h:zMj (some (zAa S)) awL=false:=by assumption
     rw [his1] at h;cases h)
  | (have h:apB (zAa S) (0,1) (7,6)=false:=by assumption
     rw [hap] at h;cases h)
  | exact absurd f1 (by assumption)
  | exact absurd f3 (by assumption)
  | exact absurd (show ((doB S awL).2.1.length:Int)=2 by rw [f2];rfl) (by assumption)
  | exact absurd (show ((List.length (doB S awL).1.2:Nat):Int)=4 by rw [f4];rfl) (by assumption)
def zLd:List AV->Option Res
 | []=>some (none,none,.s (.bool true))
 | _=>none
theorem zTA:qM prog 13 zLd:=⟨fun args r h=>by
 cases args with
 | nil =>
   cases h;obtain ⟨S,hS⟩: ∃ S,S=j9:=⟨_,rfl⟩;exact fb (fn:=[(50,zPE S),(16,z7U),(24,z6P),(25,zY6 S),(17,zPe),(19,z7L),(26,zIa)]) ⟨(zVQ S),z1t,z2N,(z1b S),zWl,z2S,zOc,trivial⟩ func13 fun _ _=>zSv S hS
 | cons a l=>(cases h),_,func13,by kernel_rfl,by kernel_rfl⟩
end S1
namespace S1
attribute [local irreducible] doB zBe eqS zAh zAa isR zC9
end S1
namespace S1
attribute [local irreducible] chK zAh zAa isR zC9 zDV zMj
end S1
namespace S1
abbrev EdL:=List (Int×Int)
def phL:EdL->Int->Int
 | [],v=>v
 | e::r,v=>if e.1=v then e.2 else phL r v
def z1u (l:EdL) (x:Int):Nat:=l.countP fun e=>decide (e.1<x)
def imF (l:EdL) (v:Int):Int:=phL l v - z1u l (phL l v)
def zSg (l:EdL) (t:P3):Bool:=l.all fun e=> !both e.1 e.2 t
def cls (s:Int×List P3) (l:EdL):Int×List P3:=(s.1 - l.length,(s.2.filter (zSg l)).map (zDo (imF l)))
theorem z0q: ∀ {l:EdL} {v:Int},(∀ e∈l,e.1≠v)->phL l v=v
 | [],_,_=>rfl
 | e::r,v,h=>by
   show (if e.1=v then e.2 else phL r v)=v;rw [if_neg (h e (zY ..))];exact z0q fun f hf=>h f (zQ _ hf)
theorem z4V: ∀ {l:EdL} {e:Int×Int},(l.map Prod.fst).Nodup->e∈l->phL l e.1=e.2
 | f ::r,e,hn,he=>by
   rw [zbk,zbG] at hn;show (if f.1=e.1 then f.2 else phL r e.1)=e.2;rcases zT.1 he with k|k
   ·rw [k,if_pos rfl]
   ·rw [if_neg fun q=>hn.1 (by rw [q];exact yC.2 ⟨e,k,rfl⟩)];exact z4V hn.2 k
theorem z2r {a w:Int} (hw:w≠a): ∀ {r:EdL},(∀ e∈r,e.1≠a)->phL (r.map (dn2 a)) (dn a w)=dn a (phL r w)
 | [],_=>rfl
 | e ::r,h=>by
   show (if dn a e.1=dn a w then dn a e.2 else phL (r.map (dn2 a)) (dn a w))=dn a (if e.1=w then e.2 else phL r w)
   by_cases k:e.1=w
   ·rw [if_pos (by rw [k]),if_pos k]
   ·rw [if_neg fun q=>k (zRU (h e (zY ..)) hw q),if_neg k];exact z2r hw fun f hf=>h f (zQ _ hf)
theorem z1j {a w:Int} (hw:w≠a): ∀ {r:EdL},(∀ e∈r,e.2≠a)->phL r w≠a
 | [],_=>hw
 | e::r,h=>by
   show (if e.1=w then e.2 else phL r w)≠a;split
   ·exact h e (zY ..)
   ·exact z1j hw fun f hf=>h f (zQ _ hf)
theorem z8Y {a v w:Int} (hv:v≠a) (hw:w≠a):dn a v<dn a w↔v<w:=by
 unfold dn;split<;>split<;>constructor<;>intro h<;>omega
theorem z4r {a x:Int} (hx:x≠a) {r:EdL} (h: ∀ e∈r,e.1≠a):z1u (r.map (dn2 a)) (dn a x)=z1u r x:=by
 unfold z1u;rw [List.countP_map];refine List.countP_congr fun e he=> ?_;show decide (dn a e.1<dn a x)=true↔_;rw [zP,zP,z8Y (h e he) hx]
structure Sep (a b:Int) (r:EdL):Prop where
 fa: ∀ e∈r,e.1≠a
 fb: ∀ e∈r,e.1≠b
 sa: ∀ e∈r,e.2≠a
 sb: ∀ e∈r,e.2≠b
theorem zHm {a b:Int} {r:EdL} (h:Sep a b r) (hab:a≠b) (v:Int):imF (r.map (dn2 a)) (dn a (ph a b v))=imF ((a,b)::r) v:=by
 have hw:ph a b v≠a:=by
  by_cases e:v=a
  ·rw [e,z2m];exact hab.symm
  ·rw [zLT e];exact e
 have e1:phL ((a,b)::r) v=phL r (ph a b v):=by
  show (if a=v then b else phL r v)=_
  by_cases e:v=a
  ·rw [if_pos e.symm,e,z2m,z0q h.fb]
  ·rw [if_neg fun q=>e q.symm,zLT e]
 have hx:=z1j hw h.sa;unfold imF;rw [z2r hw h.fa,z4r hx h.fa,e1]
 have e2:z1u ((a,b)::r) (phL r (ph a b v))=z1u r (phL r (ph a b v))+if a<phL r (ph a b v) then 1 else 0:=by
  unfold z1u;rw [List.countP_cons];simp only [zP]
 rw [e2];show (if phL r (ph a b v)>a then phL r (ph a b v) - 1 else phL r (ph a b v)) - (_:Int)=_;split<;>omega
theorem zQs {a b c:Int} {t:P3} (hab:a≠b) (ha:c≠a) (hb:c≠b):z8 (zDo (dn a) (phT a b t)) (dn a c)↔z8 t c:=by
 have key: ∀ v,dn a (ph a b v)=dn a c↔v=c:=fun v=>by
  constructor
  ·intro e
   have hw:ph a b v≠a:=by
    by_cases e:v=a
    ·rw [e,z2m];exact hab.symm
    ·rw [zLT e];exact e
   have:=zRU hw ha e
   by_cases k:v=a
   ·rw [k,z2m] at this;exact absurd this.symm hb
   ·rwa [zLT k] at this
  ·intro e;rw [e,zLT ha]
 show (dn a (ph a b t.1)=dn a c\/dn a (ph a b t.2.1)=dn a c\/dn a (ph a b t.2.2)=dn a c)↔_;rw [key,key,key];rfl
theorem zZQ {a b:Int} {r:EdL} (h:Sep a b r) (hab:a≠b) (t:P3):zSg (r.map (dn2 a)) (zDo (dn a) (phT a b t))=zSg r t:=by
 unfold zSg;rw [List.all_map];rw [Bool.eq_iff_iff,zJ,zJ]
 have key: ∀ e∈r,both (dn2 a e).1 (dn2 a e).2 (zDo (dn a) (phT a b t))=both e.1 e.2 t:=fun e he=>by
  rw [Bool.eq_iff_iff,zEf,zEf];show z8 _ (dn a e.1)/\z8 _ (dn a e.2)↔_;rw [zQs hab (h.fa e he) (h.fb e he),zQs hab (h.sa e he) (h.sb e he)]
 constructor
 ·intro k e he;have:=k e he;show (!both e.1 e.2 t)=true;rw [<- key e he];exact this
 ·intro k e he;have:=k e he;show (!both (dn2 a e).1 (dn2 a e).2 (zDo (dn a) (phT a b t)))=true;rw [key e he];exact this
theorem zW4 {s:Int×List P3} {a b:Int} {r:EdL} (h:zFG s ((a,b)::r)):Sep a b r:=by
 have p1:=(List.pairwise_cons.1 h.apart).1;have k: ∀ e∈r,(e.1≠a/\e.1≠b)/\e.2≠a/\e.2≠b:=fun e he=>zD1 (h.free e (zQ _ he)) (p1 e he);exact ⟨fun e he=>(k e he).1.1,fun e he=>(k e he).1.2,fun e he=>(k e he).2.1,fun e he=>(k e he).2.2⟩
theorem zZ0 {s:Int×List P3} {a b:Int} {r:EdL} (h:zFG s ((a,b)::r)):cls (zZv s a b) (r.map (dn2 a))=cls s ((a,b)::r):=by
 have hs:=zW4 h;have hab:a≠b:=(h.free (a,b) (zY ..)).ne;refine Prod.ext ?_ ?_
 ·show s.1 - 1 - ((r.map (dn2 a)).length:Int)=s.1 - ((r.length+1:Nat):Int);rw [yV];omega
 ·show ((((s.2.filter fun t=> !both a b t).map (phT a b)).map (zDo (dn a))).filter (zSg (r.map (dn2 a)))).map (zDo (imF (r.map (dn2 a))))=(s.2.filter (zSg ((a,b)::r))).map (zDo (imF ((a,b)::r)));rw [zcE,List.filter_map,zcE,List.filter_filter]
  have e1:(s.2.filter fun t=>(zSg (r.map (dn2 a)) ∘ (zDo (dn a) ∘ phT a b)) t&& !both a b t)=s.2.filter (zSg ((a,b)::r)):=by
   refine List.filter_congr fun t _=> ?_;show (zSg (r.map (dn2 a)) (zDo (dn a) (phT a b t))&& !both a b t)=(!both a b t&&zSg r t);rw [zZQ hs hab,Bool.and_comm]
  rw [e1];refine zbN fun t _=> ?_;show (imF _ (dn a (ph a b t.1)),imF _ (dn a (ph a b t.2.1)),imF _ (dn a (ph a b t.2.2)))=(imF _ t.1,imF _ t.2.1,imF _ t.2.2);rw [zHm hs hab,zHm hs hab,zHm hs hab]
theorem zLp (v:Int):imF [] v=v:=by
 show v - ((0:Nat):Int)=v;omega
theorem z35 (s:Int×List P3):cls s []=s:=by
 refine Prod.ext (by show s.1 - ((0:Nat):Int)=s.1;omega) ?_;show (s.2.filter fun _=>true).map (zDo (imF []))=s.2;rw [List.filter_eq_self.2 fun _ _=>rfl];refine (zbN fun t _=> ?_).trans (List.map_id _);show (imF [] t.1,imF [] t.2.1,imF [] t.2.2)=t;rw [zLp,zLp,zLp]
theorem zTO {l:List P3} {a b c d:Int} (h:zAS l a b c d):zAS l c d a b:=fun t ht k1 k2=>h t ht k2 k1
theorem zWY {s:Int×List P3} {l:EdL} (h:zFG s l):(l.map Prod.fst).Nodup:=by
 unfold List.Nodup;refine List.Pairwise.map _ (fun e f hh=> ?_) (h.apart.imp_of_mem (S:=fun e f=>zAS s.2 e.1 e.2 f.1 f.2/\e∈l/\f∈l) fun he hf hh=>⟨hh,he,hf⟩);obtain ⟨hh,he,hf⟩:=hh;exact fun e=>(zD1 (h.free f hf) hh).1.1 e.symm
def zDs (l:EdL) (m i:Nat):EdL:=(List.range i).map fun j=>l.getD ((j+m) % l.length) (0,0)
end S1
