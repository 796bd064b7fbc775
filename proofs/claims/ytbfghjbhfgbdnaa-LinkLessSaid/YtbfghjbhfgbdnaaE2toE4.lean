/- A part of the proofs of the laws. -/
import Derived.Test.YtbfghjbhfgbdnaaW1toE1
import Derived.Test.YtbfghjbhfgbdnaaVmSeqtoF10g
import Derived.Test.YtbfghjbhfgbdnaaT5toT20
set_option linter.unusedSimpArgs false
set_option linter.unusedVariables false
set_option maxHeartbeats 8000000
set_option maxRecDepth 100000
open Go.Proofs.Try
open Go Go.Vm Go.Proofs
namespace S1
abbrev gnE:ETy:= .pair (.int .i64) (.pair (.int .i64) (.pair (.int .i64) (.pair (.int .i64) (.pair (.int .i64) (.int .i64)))))
abbrev GT:=Int×Int×Int×Int×Int×Int
def gn6 (g:GN):GT:=(g.V,g.E,g.F,g.B,g.Eu,g.Ge)
theorem z2Y (l:List Int) (x:zX.T) (v:Int) (h:(0<=yL x v/\yL x v<3*(l.length:Int))/\(l.length:Int)<=8192/\Good x):zB7 ⟨tyL,[(41,zEB)],[]⟩ f40 [jF.av v,(ETy.pt (.sl jF)).av (some l),(ETy.pt (.pt zX)).av (some (some x))] (fun r=>r= .s (.int .i64 (l.getD (yL x v / 3).toNat 0))):=by
 repeat' (conv=>whnf
          first|done|refine qy ?_|refine qG fun _=> ?_|refine qw (fun _=> ?_) (fun _=> ?_)|apply qt|refine qi (fun _=> ?_) (fun _=> ?_)|refine qu ?_|refine qv ?_ ?_|exact zT)
 all_goals try first|refine qz ?_|apply qz5
 all_goals try simp only [qn0,yC,yA,ETy.dflt,Int.reduceToNat,Int.reduceAdd,Int.reduceSub,Int.reduceNeg,Nat.reduceAdd] at *
 all_goals have t3:=td3 h.1.1
 all_goals try (rw [t3];rfl)
 all_goals try (exact jQ.intro h.1)
 all_goals try (refine jQ.intro ?_)
 all_goals try (exact h.2.2)
 all_goals try (rw [t3])
 all_goals try (show _/\_<(l.length:Int))
 all_goals try (unfold zAL at *)
 all_goals obtain ⟨h1,h2,_⟩:=h
 all_goals try omega
def atC:List AV->Option Res:=zNd jF (.pt (.sl jF)) (.pt (.pt zX)) (fun v o p=>match o with
 | some l=>(match p with
   | some (some x)=>some (none,some ((0<=yL x v/\yL x v<3*(l.length:Int))/\(l.length:Int)<=8192/\Good x),.s (.int .i64 (l.getD (yL x v / 3).toNat 0)))
   | _=>none)
 | none=>none)
theorem z2D:zAI prog 40 atC:=mkR (zEI fun v o p r h=>by
 cases o with
 | none=>cases h
 | some l =>
   cases p with
   | none=>cases h
   | some q =>
     cases q with
     | none=>cases h
     | some x=>cases h;exact fb (fn:=[(41,zEB)]) ⟨zEM,trivial⟩ func40 fun _ h=>z2Y l x v h) func40
theorem zGk {α:Type} (n:Nat) (f:Nat->α) (k:Nat) (v:α):((List.range n).map f).set k v=(List.range n).map fun s=>if s=k then v else f s:=by
 apply List.ext_getElem (by simp);intro i h1 h2;simp only [List.getElem_set,List.getElem_map,List.getElem_range]
 by_cases q:k=i
 ·rw [if_pos q,if_pos q.symm]
 ·rw [if_neg q,if_neg (fun e=>q e.symm)]
theorem zGZ {α:Type} {n:Nat} (f:Nat->α) {k:Nat} (d:α) (h:k<n):((List.range n).map f).getD k d=f k:=by
 rw [zH,zB (by simpa using h)];simp
theorem zGc {α:Type} {n:Nat} {f g:Nat->α} (h: ∀ s,s<n->f s=g s):(List.range n).map f=(List.range n).map g:=zAQ fun s hs=>h s (zW.1 hs)
def cF (x:zX.T) (i s:Nat):Nat:=(List.range i).countP fun j=>decide (zDB x j=s)
def cT (x:zX.T) (c s:Nat):Nat:=((List.range c).countP fun c=>decide (zDB x (c / 3)=s))+(List.range c).countP fun (c:Nat)=>decide (zAY x c<0)&&decide (zDB x (c / 3)=s)
def cV (x:zX.T) (v s:Nat):Nat:=(List.range v).countP fun (v:Nat)=>decide (zL0 x v=s)
def cL (x:zX.T) (k s:Nat):Nat:=((zAC x).take k).countP fun L=>decide (zL0 x (L.getD 0 0)=s)
def oF (x:zX.T) (i:Nat):List GT:=(List.range (nSh x)).map fun (s:Nat)=>(0,0,(cF x i s:Int),0,0,0)
def tw (x:zX.T) (c:Nat):List Int:=(List.range (nSh x)).map fun (s:Nat)=>(cT x c s:Int)
def oV (x:zX.T) (v:Nat):List GT:=(List.range (nSh x)).map fun (s:Nat)=>((cV x v s:Int),0,(nF x s:Int),0,0,0)
def oL (x:zX.T) (k:Nat):List GT:=(List.range (nSh x)).map fun (s:Nat)=>((nV x s:Int),0,(nF x s:Int),(cL x k s:Int),0,0)
def oD (x:zX.T) (k:Nat):List GT:=(List.range (nSh x)).map fun (s:Nat)=>if s<k then gn6 (gnT x s) else ((nV x s:Int),0,(nF x s:Int),(nL x s:Int),0,0)
theorem zLh (p:Nat->Bool) (i:Nat):(List.range (i+1)).countP p=(List.range i).countP p+if p i=true then 1 else 0:=by
 rw [List.range_succ,List.countP_append,List.countP_cons,List.countP_nil,yK]
theorem zID (p:Nat->Bool) (i:Nat):(List.range i).countP p<=i:=by
 have:=List.countP_le_length (p:=p) (l:=List.range i);rwa [zDg] at this
theorem bump {α:Type} {n:Nat} {f f':Nat->α} {k:Nat} (d:α) (G:α->α) (hk:k<n) (h: ∀ s,s<n->f' s=if s=k then G (f k) else f s):(List.range n).map f'=((List.range n).map f).set k (G (((List.range n).map f).getD k d)):=by
 rw [zGk,zGZ f d hk];exact zGc h
theorem zDA {x:zX.T} (g:Full x) {i:Nat} (h:i<(ofR x).length): ∃ k:Nat,k<nSh x/\(ofR x).getD i 0=(k:Int)/\zDB x i=(k:Int):=by
 rw [zHN g.toGood] at h;have r:=zFT g h;refine ⟨(zDB x i).toNat,by omega,?_,by omega⟩;show zDB x i=_;omega
theorem zSv {x:zX.T} (g:Full x) {i:Nat} (h:i<(ofR x).length):0<=(ofR x).getD i 0/\(ofR x).getD i 0<(nSh x:Int):=by
 rw [zHN g.toGood] at h;exact zFT g h
theorem g0 (x:zX.T):oF x 0=List.replicate (nSh x) (0,0,0,0,0,0):=by
 apply List.ext_getElem (by simp [oF]);intro i h1 h2;simp [oF,cF]
theorem t0 (x:zX.T):tw x (3*0)=List.replicate (nSh x) 0:=by
 apply List.ext_getElem (by simp [tw]);intro i h1 h2;simp [tw,cT]
theorem zYK {x:zX.T} (g:Full x) {i:Nat} (h:i<(ofR x).length):oF x (i+1)=(oF x i).set ((ofR x).getD i 0).toNat ((fun t:GT=>(t.1,t.2.1,t.2.2.1+1,t.2.2.2)) ((oF x i).getD ((ofR x).getD i 0).toNat (0,0,0,0,0,0))):=by
 obtain ⟨k,hk,e1,e2⟩:=zDA g h;rw [e1,Int.toNat_natCast];refine bump (0,0,0,0,0,0) (fun t:GT=>(t.1,t.2.1,t.2.2.1+1,t.2.2.2)) hk fun s hs=> ?_;show ((0:Int),(0:Int),((cF x (i+1) s:Nat):Int),(0:Int),(0:Int),(0:Int))=_;unfold cF;rw [zLh,e2]
 by_cases q:s=k
 ·subst q;rw [if_pos rfl,if_pos (by simp)];rfl
 ·rw [if_neg q,if_neg (by rw [zF];omega)];rfl
theorem z2P {x:zX.T} (g:Full x) {i:Nat} (h:i<(ofR x).length):zAL (((oF x i).getD ((ofR x).getD i 0).toNat (0,0,0,0,0,0)).2.2.1+1):=by
 obtain ⟨k,hk,e1,e2⟩:=zDA g h;rw [e1,Int.toNat_natCast];unfold oF;rw [zGZ _ _ hk];rw [zHN g.toGood] at h;have h1:=zID (fun j=>decide (zDB x j=(k:Int))) i;have h2:x.1.2.length<=8192:=g.fit.2.2.1;show zAL (((List.range i).countP (fun j=>decide (zDB x j=(k:Int))):Int)+1);unfold zAL;omega
theorem z3P (x:zX.T) (c s:Nat):cT x (c+1) s=cT x c s+(if zDB x (c / 3)=(s:Int) then 1 else 0)+if zAY x c<0/\zDB x (c / 3)=(s:Int) then 1 else 0:=by
 unfold cT;rw [zLh,zLh];simp only [zF,zA];omega
theorem z17 (x:zX.T) (c s:Nat):cT x c s<=2*c:=by
 unfold cT;have h1:=zID (fun c=>decide (zDB x (c / 3)=(s:Int))) c;have h2:=zID (fun (c:Nat)=>decide (zAY x c<0)&&decide (zDB x (c / 3)=(s:Int))) c;omega
theorem zTl {x:zX.T} {c k:Nat} (h:k<nSh x):(tw x c).getD k 0=(cT x c k:Int):=zGZ _ _ h
theorem zX8 (x:zX.T) (c:Nat):(tw x c).length=nSh x:=by unfold tw;simp
theorem sg {α:Type} {l:List α} {m:Nat} (v d:α) (h:m<l.length):(l.set m v).getD m d=v:=by
 rw [zH,yT h];rfl
theorem z2I {x:zX.T} (g:Full x) {i c:Nat} (h:i<(ofR x).length) (h1:c<=3*i+3):zAL ((tw x c).getD ((ofR x).getD i 0).toNat 0+1):=by
 obtain ⟨k,hk,e1,e2⟩:=zDA g h;rw [e1,Int.toNat_natCast,zTl hk];rw [zHN g.toGood] at h;have h2:x.1.2.length<=8192:=g.fit.2.2.1;have:=z17 x c k;unfold zAL;omega
theorem z0h {x:zX.T} (g:Full x) {i c:Nat} (h:i<(ofR x).length) (h1:c<=3*i+3):zAL (((tw x c).set ((ofR x).getD i 0).toNat ((tw x c).getD ((ofR x).getD i 0).toNat 0+1)).getD ((ofR x).getD i 0).toNat 0+1):=by
 obtain ⟨k,hk,e1,e2⟩:=zDA g h;rw [e1,Int.toNat_natCast,sg _ _ (by rw [zX8];exact hk),zTl hk];rw [zHN g.toGood] at h;have h2:x.1.2.length<=8192:=g.fit.2.2.1;have:=z17 x c k;unfold zAL;omega
theorem z1i {x:zX.T} (g:Full x) {i c:Nat} (h:i<(ofR x).length) (h1:3*i<=c) (h2:c<3*i+3) (ho: ¬ zAY x c<0):tw x (c+1)=(tw x c).set ((ofR x).getD i 0).toNat ((tw x c).getD ((ofR x).getD i 0).toNat 0+1):=by
 obtain ⟨k,hk,e1,e2⟩:=zDA g h;rw [e1,Int.toNat_natCast];refine bump (0:Int) (fun t=>t+1) hk fun s hs=> ?_;show ((cT x (c+1) s:Nat):Int)=if s=k then ((cT x c k:Nat):Int)+1 else ((cT x c s:Nat):Int);rw [z3P,show c / 3=i by omega,e2]
 by_cases q:s=k
 ·subst q;rw [if_pos rfl,if_neg (fun e=>ho e.1),if_pos rfl];omega
 ·rw [if_neg (by omega),if_neg (fun e=>ho e.1),if_neg q];omega
theorem z09 {x:zX.T} (g:Full x) {i c:Nat} (h:i<(ofR x).length) (h1:3*i<=c) (h2:c<3*i+3) (ho:zAY x c<0):tw x (c+1)=((tw x c).set ((ofR x).getD i 0).toNat ((tw x c).getD ((ofR x).getD i 0).toNat 0+1)).set ((ofR x).getD i 0).toNat (((tw x c).set ((ofR x).getD i 0).toNat ((tw x c).getD ((ofR x).getD i 0).toNat 0+1)).getD ((ofR x).getD i 0).toNat 0+1):=by
 obtain ⟨k,hk,e1,e2⟩:=zDA g h;rw [e1,Int.toNat_natCast,sg _ _ (by rw [zX8];exact hk),List.set_set];refine bump (0:Int) (fun t=>t+1+1) hk fun s hs=> ?_;show ((cT x (c+1) s:Nat):Int)=if s=k then ((cT x c k:Nat):Int)+1+1 else ((cT x c s:Nat):Int);rw [z3P,show c / 3=i by omega,e2]
 by_cases q:s=k
 ·subst q;rw [if_pos rfl,if_pos ⟨ho,rfl⟩,if_pos rfl];omega
 ·rw [if_neg (by omega),if_neg (fun e=>by omega),if_neg q];omega
theorem z3Z {x:zX.T} (g:Full x) {i:Nat} (h:i=(ofR x).length):oV x 0=oF x i:=by
 rw [zHN g.toGood] at h;subst h;refine zGc fun s _=> ?_;show (((cV x 0 s:Nat):Int),(0:Int),_,_,_,_)=_;rfl
theorem zXZ {x:zX.T} (g:Full x) {v:Int} (h0:0<=v) (h1:v<x.1.1):0<=yL x v/\yL x v<3*((ofR x).length:Int):=by
 rw [zHN g.toGood];exact z6.1 (g.vtx v h0 h1).1
theorem zKJ {x:zX.T} (g:Full x) {v:Int} (h0:0<=v) (h1:v<x.1.1):(yL x v / 3).toNat<(ofR x).length:=by
 have:=zXZ g h0 h1;omega
theorem zR7 {x:zX.T} (g:Full x) {v:Int} (h0:0<=v) (h1:v<x.1.1):(0<=yL x v/\yL x v<3*((ofR x).length:Int))/\((ofR x).length:Int)<=8192/\Good x:=by
 refine ⟨zXZ g h0 h1,?_,g.toGood⟩;rw [zHN g.toGood];have h2:x.1.2.length<=8192:=g.fit.2.2.1;omega
theorem z2k {x:zX.T} (g:Full x) {v:Nat} (h:(v:Int)<x.1.1):zAL (((oV x v).getD ((ofR x).getD (yL x v / 3).toNat 0).toNat (0,0,0,0,0,0)).1+1):=by
 obtain ⟨k,hk,e1,e2⟩:=zDA g (zKJ g (by omega) h);rw [e1,Int.toNat_natCast];unfold oV;rw [zGZ _ _ hk];have h1:=zID (fun (v:Nat)=>decide (zL0 x v=(k:Int))) v;have h2: @LE.le Int _ x.1.1 4096:=g.fit.2.1;show zAL (((List.range v).countP (fun (v:Nat)=>decide (zL0 x v=(k:Int))):Int)+1);unfold zAL;omega
theorem zZu {x:zX.T} (g:Full x) {v:Nat} (h:(v:Int)<x.1.1):oV x (v+1)=(oV x v).set ((ofR x).getD (yL x v / 3).toNat 0).toNat ((fun t:GT=>(t.1+1,t.2)) ((oV x v).getD ((ofR x).getD (yL x v / 3).toNat 0).toNat (0,0,0,0,0,0))):=by
 obtain ⟨k,hk,e1,e2⟩:=zDA g (zKJ g (by omega) h);rw [e1,Int.toNat_natCast];refine bump (0,0,0,0,0,0) (fun t:GT=>(t.1+1,t.2)) hk fun s hs=> ?_;show (((cV x (v+1) s:Nat):Int),_,_,_,_,_)=_;unfold cV;rw [zLh,show zL0 x v=_ from e2]
 by_cases q:s=k
 ·subst q;rw [if_pos rfl,if_pos (by simp)];rfl
 ·rw [if_neg q,if_neg (by rw [zF];omega)];rfl
theorem z30 {x:zX.T} {v:Nat} (h:v=x.1.1.toNat):oL x 0=oV x v:=by
 subst h;refine zGc fun s _=> ?_;show (_,_,_,((cL x 0 s:Nat):Int),_,_)=_;rfl
theorem zFB {x:zX.T} (g:Full x) {k:Nat} (h:k<(zAC x).length):0<((zAC x).getD k []).length/\0<=((zAC x).getD k []).getD 0 0/\((zAC x).getD k []).getD 0 0<x.1.1:=by
 have hm:(zAC x).getD k []∈zAC x:=by
  rw [zH,zB h];exact y6 _
 have ok:=(zEJ g).ok _ hm;have hv:((zAC x).getD k []).getD 0 0∈(zAC x).getD k []:=zZT ok.ne;obtain ⟨w,hw⟩:=ok.bord hv;exact ⟨ok.ne,(zOe g hw).2.1⟩
theorem z2m {x:zX.T} (g:Full x) {k:Nat} (h:k<(zAC x).length):zAL (((oL x k).getD ((ofR x).getD (yL x (((zAC x).getD k []).getD 0 0) / 3).toNat 0).toNat (0,0,0,0,0,0)).2.2.2.1+1):=by
 obtain ⟨h1,h2,h3⟩:=zFB g h;obtain ⟨s,hs,e1,e2⟩:=zDA g (zKJ g h2 h3);rw [e1,Int.toNat_natCast];unfold oL;rw [zGZ _ _ hs];have h4:=List.countP_le_length (p:=fun L=>decide (zL0 x (L.getD 0 0)=(s:Int))) (l:=(zAC x).take k);have h5:(zAC x).length<=x.1.1.toNat:=zLX x x.1.1.toNat;have h6: @LE.le Int _ x.1.1 4096:=g.fit.2.1;rw [zAN] at h4;show zAL ((((zAC x).take k).countP (fun L=>decide (zL0 x (L.getD 0 0)=(s:Int))):Int)+1)
 unfold zAL;omega
theorem zYS {x:zX.T} (g:Full x) {k:Nat} (h:k<(zAC x).length):oL x (k+1)=(oL x k).set ((ofR x).getD (yL x (((zAC x).getD k []).getD 0 0) / 3).toNat 0).toNat ((fun t:GT=>(t.1,t.2.1,t.2.2.1,t.2.2.2.1+1,t.2.2.2.2)) ((oL x k).getD ((ofR x).getD (yL x (((zAC x).getD k []).getD 0 0) / 3).toNat 0).toNat (0,0,0,0,0,0))):=by
 obtain ⟨h1,h2,h3⟩:=zFB g h;obtain ⟨r,hr,e1,e2⟩:=zDA g (zKJ g h2 h3);rw [e1,Int.toNat_natCast];refine bump (0,0,0,0,0,0) (fun t:GT=>(t.1,t.2.1,t.2.2.1,t.2.2.2.1+1,t.2.2.2.2)) hr fun s hs=> ?_;show (_,_,_,((cL x (k+1) s:Nat):Int),_,_)=_;unfold cL;rw [yJ h,List.countP_append,List.countP_cons,List.countP_nil,yK]
 have e3:zL0 x (((zAC x)[k]'h).getD 0 0)=(r:Int):=by
  have:(zAC x)[k]'h=(zAC x).getD k []:=by rw [zH,zB h];rfl
  rw [this];exact e2
 rw [e3]
 by_cases q:s=r
 ·subst q;rw [if_pos rfl,if_pos (by simp)];rfl
 ·rw [if_neg q,if_neg (by rw [zF];omega)];rfl
theorem z32 {x:zX.T} {k:Nat} (h:k=(zAC x).length):oD x 0=oL x k:=by
 subst h;refine zGc fun s _=> ?_;rw [if_neg (Nat.not_lt_zero _)];show _=(_,_,_,((cL x (zAC x).length s:Nat):Int),_,_);unfold cL;rw [qJ];rfl
theorem z0f (x:zX.T) (s n:Nat):cT x (3*n) s=3*((List.range n).countP fun j=>decide (zDB x j=(s:Int)))+(List.range (3*n)).countP fun (c:Nat)=>decide (zAY x c<0)&&decide (zDB x (c / 3)=(s:Int)):=by
 unfold cT
 congr 1
 induction n with
 | zero=>rfl
 | succ n ih =>
   rw [show 3*(n+1)=3*n+1+1+1 by omega,zLh,zLh,zLh,ih,zLh,show (3*n+1+1) / 3=n by omega,show (3*n+1) / 3=n by omega,show 3*n / 3=n by omega];omega
theorem z19 {x:zX.T} (g:Full x) {i:Nat} (h:i=(ofR x).length) (s:Nat):cT x (3*i) s=3*nF x s+nB x s:=by
 rw [zHN g.toGood] at h;subst h;exact z0f x s _
theorem zXR (x:zX.T) (m:Nat):(oD x m).length=nSh x:=by unfold oD;simp
theorem z16 {x:zX.T} {m:Nat} (h:m<nSh x):(oD x m).getD m (0,0,0,0,0,0)=((nV x m:Int),0,(nF x m:Int),(nL x m:Int),0,0):=by
 unfold oD;rw [zGZ _ _ h,if_neg (Nat.lt_irrefl _)]
theorem z0q (x:zX.T) {m:Nat} (h:m=nSh x):(oD x m).take (nSh x)=(List.range (nSh x)).map fun (s:Nat)=>gn6 (gnT x s):=by
 subst h;rw [jR (Nat.le_of_eq (zXR x _))];exact zGc fun s hs=>if_pos hs
theorem zXp {x:zX.T} (g:Full x) (s:Nat):nV x s<=4096/\nF x s<=8192/\nB x s<=24576/\nL x s<=4096:=by
 have h1:=zID (fun (v:Nat)=>decide (zL0 x v=(s:Int))) x.1.1.toNat;have h2: @LE.le Int _ x.1.1 4096:=g.fit.2.1;have h3:=zID (fun j=>decide (zDB x j=(s:Int))) x.1.2.length;have h4:x.1.2.length<=8192:=g.fit.2.2.1;have h5:=zID (fun (c:Nat)=>decide (zAY x c<0)&&decide (zDB x (c / 3)=(s:Int))) (3*x.1.2.length);have h6:=List.countP_le_length (p:=fun L=>decide (zL0 x (L.getD 0 0)=(s:Int))) (l:=zAC x);have h7:(zAC x).length<=x.1.1.toNat:=zLX x x.1.1.toNat
 unfold nV nF nB nL;refine ⟨?_,?_,?_,?_⟩<;>omega
theorem zZ0 {x:zX.T} {m:Nat} (h:m<nSh x):oD x (m+1)=(oD x m).set m (gn6 (gnT x m)):=by
 unfold oD;rw [zGk];refine zGc fun s hs=> ?_
 by_cases q:s=m
 ·subst q;rw [if_pos (Nat.lt_succ_self _),if_pos rfl]
 ·rw [if_neg q]
  by_cases q2:s<m
  ·rw [if_pos (by omega),if_pos q2]
  ·rw [if_neg (by omega),if_neg q2]
def zRy (x:zX.T):Spec Nat where
 inv i:=i<=(ofR x).length
 live i:=[(25,.s (.int .i64 i))]
 keep:=[1,3,4,5,6,23,24]
 heap i:=[(3,.row gnE 38 (oF x i)),(4,.row jF 3 (tw x (3*i)))]
 keepH:=[0,1,2]
 mu i:=(ofR x).length - i
def zTK (x:zX.T) (i:Nat):Spec Nat where
 inv c:=3*i<=c/\c<=3*i+3
 live c:=[(9,.s (.int .i64 c))]
 keep:=[1,3,4,5,6,7,8,23,24,25]
 heap c:=[(4,.row jF 3 (tw x c))]
 keepH:=[0,1,2,3]
 mu c:=3*i+3 - c
def zU3 (x:zX.T):Spec Nat where
 inv v:=(v:Int)<=x.1.1
 live v:=[(66,.s (.int .i64 v))]
 keep:=[1,3,4,5,6,65]
 heap v:=[(3,.row gnE 38 (oV x v))]
 keepH:=[0,1,2,4]
 mu v:=x.1.1.toNat - v
def zSR (x:zX.T):Spec Nat where
 inv k:=k<=(zAC x).length
 live k:=[(83,.s (.int .i64 k))]
 keep:=[1,3,4,5,6,81,82]
 heap k:=[(3,.row gnE 38 (oL x k))]
 keepH:=[0,1,2,4]
 mu k:=(zAC x).length - k
def zU0 (x:zX.T):Spec Nat where
 inv k:=k<=nSh x
 live k:=[(102,.s (.int .i64 k))]
 keep:=[4,5,101]
 heap k:=[(3,.row gnE 38 (oD x k))]
 keepH:=[0,1,2,4]
 mu k:=nSh x - k
def z13:List AV->St->(AV->St->Prop)->Prop:=zQO ⟨tyL,[],[]⟩ f42
theorem zZX : zIx prog 42 z13 ∧ ∃ fn, Try.prog.funcs[42]? = some fn ∧ (fn.name == "runtime.NumGoroutine") = false ∧ fn.body.isNone = false :=
 ⟨zMW (zCw (fn:=[]) (fr:=[]) trivial trivial) func42 rfl (by kernel_rfl),_,func42,by kernel_rfl,by kernel_rfl⟩
attribute [local irreducible] cF cT cV cL oF tw oV oL oD nSh zDB zL0 zAC ofR nV nF nB nL
theorem z23 (x:zX.T) (g:Full x) (hb:nSh x<=8192):zB7 ⟨tyL,[(39,zQu),(20,zSL),(40,atC),(19,zTF),(13,zNh),(36,zBR)],[(42,.run z13)]⟩ Try.f21 [(ETy.pt zX).av (some x)] (fun r=>r= .s (.sl gnE ((List.range (nSh x)).map fun (s:Nat)=>gn6 (gnT x s)))):=by
 have hlen:(ofR x).length<=8192:=by rw [zHN g.toGood];exact g.fit.2.2.1
 have hN: @LE.le Int _ x.1.1 4096:=g.fit.2.1;have hN0: @LE.le Int _ 0 x.1.1:=g.fit.1
 repeat' (conv=>whnf
          first|done|refine qy ?_|refine qG fun _=> ?_|refine qw (fun _=> ?_) (fun _=> ?_)|apply qt|refine qi (fun _=> ?_) (fun _=> ?_)|(refine (fun (X:Array Value)=> ?_))|(refine j6 6 rfl (zRy x) (0) ?_ ?_ ?_ fun i hi=> ?_)|with_reducible refine jX (zRy _) (i+1) ?_ ?_ ?_ ?_|(refine j6 10 rfl (zTK x i) (3*i) ?_ ?_ ?_ fun c hc=> ?_)|with_reducible refine jX (zTK _ _) (c+1) ?_ ?_ ?_ ?_|(refine j6 17 rfl (zU3 x) (0) ?_ ?_ ?_ fun v hv=> ?_)|with_reducible refine jX (zU3 _) (v+1) ?_ ?_ ?_ ?_|(refine j6 22 rfl (zSR x) (0) ?_ ?_ ?_ fun k hk=> ?_)|with_reducible refine jX (zSR _) (k+1) ?_ ?_ ?_ ?_|(refine j6 27 rfl (zU0 x) (0) ?_ ?_ ?_ fun m hm=> ?_)|with_reducible refine jX (zU0 _) (m+1) ?_ ?_ ?_ ?_|refine qu ?_|refine qv ?_ ?_|exact zT)
 all_goals try first|refine qz ?_|apply qz5
 all_goals try simp only [qn0,yC,yA,ETy.dflt,Int.reduceToNat,Int.reduceAdd,Int.reduceSub,Int.reduceNeg,Nat.reduceAdd,zRy,zTK,zU3,zSR,zU0] at *
 all_goals try exact jQ.intro g.toGood
 all_goals try exact g0 x
 all_goals try exact t0 x
 all_goals try exact jQ.intro (jB _)
 all_goals try exact jQ.intro g.fit.1
 all_goals try exact jQ.intro fun y e=>by cases e;exact g
 all_goals try exact jQ.intro (by omega)
 all_goals try
  have q:i<(ofR x).length:=Int.ofNat_lt.1 (by assumption)
  first
  | exact jQ.intro (zSv g q)
  | exact jQ.intro (z2P g q)
  | exact zYK g q
  | exact jQ.intro (z2I g q (by omega))
  | exact jQ.intro (z0h g q (by omega))
  | exact z09 g q (by omega) (by omega) (by assumption)
  | exact z1i g q (by omega) (by omega) (by assumption)
  | exact jQ.intro (show (c:Int)<=1000000 by omega)
  | exact jQ.intro (by omega)
  | (rw [show c=3*(i+1) by omega])
 all_goals try
  have q: ¬ ((i:Int)<((ofR x).length:Int)):=by assumption
  exact z3Z g (by omega)
 all_goals try
  have q: @LT.lt Int _ (v:Int) x.1.1:=by assumption
  first
  | exact jQ.intro (zR7 g (by omega) q)
  | exact jQ.intro (zSv g (zKJ g (by omega) q))
  | exact jQ.intro (z2k g q)
  | exact zZu g q
  | exact jQ.intro (show @LE.le Int _ ((v+1:Nat):Int) x.1.1 by omega)
  | (refine jQ.intro ?_;unfold zAL;omega)
  | (refine jQ.intro ?_;have:(x.1.1.toNat:Int)=x.1.1:=zA4 hN0;omega)
 all_goals try
  have q: ¬ @LT.lt Int _ (v:Int) x.1.1:=by assumption
  have q2: @LE.le Int _ (v:Int) x.1.1:=hv;exact z30 (by omega)
 all_goals try
  have q:k<(zAC x).length:=Int.ofNat_lt.1 (by assumption)
  first
  | exact jQ.intro ⟨Int.le_refl _,Int.ofNat_lt.2 (zFB g q).1⟩
  | exact jQ.intro (zR7 g (zFB g q).2.1 (zFB g q).2.2)
  | exact jQ.intro (zSv g (zKJ g (zFB g q).2.1 (zFB g q).2.2))
  | exact jQ.intro (z2m g q)
  | exact zYS g q
  | exact jQ.intro (by omega)
 all_goals try
  have q: ¬ ((k:Int)<((zAC x).length:Int)):=by assumption
  exact z32 (by omega)
 all_goals try
  have q: ¬ ((m:Int)<(nSh x:Int)):=by assumption
  exact z0q x (by omega)
 all_goals
  have q:m<nSh x:=Int.ofNat_lt.1 (by assumption)
  have hi2:i=(ofR x).length:=by
   have q: ¬ ((i:Int)<((ofR x).length:Int)):=by assumption
   omega
  have sgl: ∀ v d:GT,((oD x m).set m v).getD m d=v:=fun v d=>sg v d (by rw [zXR];exact q);simp only [List.set_set,sgl,z16 q,zTl q,z19 g hi2];obtain ⟨b1,b2,b3,b4⟩:=zXp g m;have e2:Int.tdiv ((3*nF x m+nB x m:Nat):Int) 2=((3*nF x m+nB x m) / 2:Nat):=rfl;have e3:=Int.natAbs_tdiv_le_natAbs (2 - (nL x m:Int) - ((nV x m:Int) - ((3*nF x m+nB x m) / 2:Nat)+(nF x m:Int))) 2
  try rw [e2]
  first
  | exact zZ0 q
  | exact jQ.intro (by omega)
  | (refine jQ.intro ?_;unfold zAL;omega)
  | (refine jQ.intro ⟨by decide,?_⟩;unfold zAL;omega)
end S1
namespace S1
def zEu (x:zX.T):List GT:=(List.range (nSh x)).map fun (s:Nat)=>gn6 (gnT x s)
def zZ4:List AV->Option Res:=zO8 zX (fun x=>some (none,some (Full x),.s (.sl gnE (zEu x))))
theorem zYM:zAI prog 21 zZ4:=mkR (zE7 fun x r h=>by
 cases h
 exact fb (fn:=[(39,zQu),(20,zSL),(40,atC),(19,zTF),(13,zNh),(36,zBR)]) ⟨zNu,zWB,z2D,zWi,zFb,zC4,trivial⟩ func21 (p2:=by exact ⟨zZX,trivial⟩) fun _ h=>z23 x h (by have:=zRU h.toGood;have:=h.fit.2.2.1;omega)) func21
theorem zVf (x:zX.T):zEu x=(zUU x).map gn6:=by unfold zEu zUU;rw [zGN];rfl
theorem zWq (x:zX.T):(zEu x).length=nSh x:=by unfold zEu;simp
def sP (l:List GT) (i:Nat):GT:=(zCl ((l.take i).map (·.1)),zCl ((l.take i).map (·.2.1)),zCl ((l.take i).map (·.2.2.1)),zCl ((l.take i).map (·.2.2.2.1)),zCl ((l.take i).map (·.2.2.2.2.1)),zCl ((l.take i).map (·.2.2.2.2.2)))
theorem zHl (f:GT->Int) (l:List GT) {i:Nat} (h:i<l.length):zCl ((l.take (i+1)).map f)=zCl ((l.take i).map f)+f (l.getD i (0,0,0,0,0,0)):=by
 rw [yJ h,zA8,zL2,zH,zB h];show _+(f l[i]+0)=_+f l[i];rw [Int.add_zero]
theorem zI8 (f:GT->Int) (l:List GT) (h: ∀ t∈l,(f t).natAbs<=50000): ∀ i,i<=l.length->(zCl ((l.take i).map f)).natAbs<=50000*i
 | 0,_=>zI 0
 | i +1,hi=>by
   have ih:=zI8 f l h i (by omega);rw [zHl f l (by omega)]
   have:=h (l.getD i (0,0,0,0,0,0)) (by
    rw [zH,zB (by omega:i<l.length)];exact y6 _)
   omega
theorem z2o {x:zX.T} (g:Full x): ∀ t∈zEu x,t.1.natAbs<=50000/\t.2.1.natAbs<=50000/\t.2.2.1.natAbs<=50000/\t.2.2.2.1.natAbs<=50000/\t.2.2.2.2.1.natAbs<=50000/\t.2.2.2.2.2.natAbs<=50000:=fun t ht=>by
 obtain ⟨s,_,rfl⟩:=zS.1 ht;obtain ⟨b1,b2,b3,b4⟩:=zXp g s;have e3:=Int.natAbs_tdiv_le_natAbs (2 - (nL x s:Int) - ((nV x s:Int) - ((3*nF x s+nB x s) / 2:Nat)+(nF x s:Int))) 2;refine ⟨?_,?_,?_,?_,?_,?_⟩
 ·show ((nV x s:Int)).natAbs<=_;omega
 ·show (((3*nF x s+nB x s) / 2:Nat):Int).natAbs<=_;omega
 ·show ((nF x s:Int)).natAbs<=_;omega
 ·show ((nL x s:Int)).natAbs<=_;omega
 ·show ((nV x s:Int) - ((3*nF x s+nB x s) / 2:Nat)+(nF x s:Int)).natAbs<=_;omega
 ·show (Int.tdiv (2 - (nL x s:Int) - ((nV x s:Int) - ((3*nF x s+nB x s) / 2:Nat)+(nF x s:Int))) 2).natAbs<=_;omega
structure SB (t:GT) (n:Nat):Prop where
 h1:t.1.natAbs<=n
 h2:t.2.1.natAbs<=n
 h3:t.2.2.1.natAbs<=n
 h4:t.2.2.2.1.natAbs<=n
 h5:t.2.2.2.2.1.natAbs<=n
 h6:t.2.2.2.2.2.natAbs<=n
theorem zZh {x:zX.T} (g:Full x) {i:Nat} (h:i<=(zEu x).length):SB (sP (zEu x) i) 409600000:=by
 have hl:=zWq x;have:=zRU g.toGood;have:=g.fit.2.2.1;have k:=z2o g;have b1:=zI8 (·.1) _ (fun t ht=>(k t ht).1) i h;have b2:=zI8 (·.2.1) _ (fun t ht=>(k t ht).2.1) i h;have b3:=zI8 (·.2.2.1) _ (fun t ht=>(k t ht).2.2.1) i h;have b4:=zI8 (·.2.2.2.1) _ (fun t ht=>(k t ht).2.2.2.1) i h;have b5:=zI8 (·.2.2.2.2.1) _ (fun t ht=>(k t ht).2.2.2.2.1) i h;have b6:=zI8 (·.2.2.2.2.2) _ (fun t ht=>(k t ht).2.2.2.2.2) i h
 exact ⟨by show (zCl _).natAbs<=_;omega,by show (zCl _).natAbs<=_;omega,by show (zCl _).natAbs<=_;omega,by show (zCl _).natAbs<=_;omega,by show (zCl _).natAbs<=_;omega,by show (zCl _).natAbs<=_;omega⟩
theorem zYT (l:List GT) {i:Nat} (h:i<l.length):sP l (i+1)=((sP l i).1+(l.getD i (0,0,0,0,0,0)).1,(sP l i).2.1+(l.getD i (0,0,0,0,0,0)).2.1,(sP l i).2.2.1+(l.getD i (0,0,0,0,0,0)).2.2.1,(sP l i).2.2.2.1+(l.getD i (0,0,0,0,0,0)).2.2.2.1,(sP l i).2.2.2.2.1+(l.getD i (0,0,0,0,0,0)).2.2.2.2.1,(sP l i).2.2.2.2.2+(l.getD i (0,0,0,0,0,0)).2.2.2.2.2):=by
 unfold sP;rw [zHl (·.1) l h,zHl (·.2.1) l h,zHl (·.2.2.1) l h,zHl (·.2.2.2.1) l h,zHl (·.2.2.2.2.1) l h,zHl (·.2.2.2.2.2) l h]
theorem zXr (x:zX.T) {i:Nat} (h:i=(zEu x).length):sP (zEu x) i=gn6 (jT x):=by
 subst h;unfold sP;rw [qJ,zVf];simp only [zGN];rfl
theorem nab {a:Int} (h:a.natAbs<=409600000):zAL a:=by unfold zAL;omega
theorem z2O {x:zX.T} (g:Full x) {i:Nat} (h:i<(zEu x).length):zAL ((sP (zEu x) i).1+((zEu x).getD i (0,0,0,0,0,0)).1):=by
 have b:=(zZh g (i:=i+1) (by omega)).h1;rw [zYT _ h] at b;exact nab b
theorem z2L {x:zX.T} (g:Full x) {i:Nat} (h:i<(zEu x).length):zAL ((sP (zEu x) i).2.1+((zEu x).getD i (0,0,0,0,0,0)).2.1):=by
 have b:=(zZh g (i:=i+1) (by omega)).h2;rw [zYT _ h] at b;exact nab b
theorem z3B {x:zX.T} (g:Full x) {i:Nat} (h:i<(zEu x).length):zAL ((sP (zEu x) i).2.2.1+((zEu x).getD i (0,0,0,0,0,0)).2.2.1):=by
 have b:=(zZh g (i:=i+1) (by omega)).h3;rw [zYT _ h] at b;exact nab b
theorem z2a {x:zX.T} (g:Full x) {i:Nat} (h:i<(zEu x).length):zAL ((sP (zEu x) i).2.2.2.1+((zEu x).getD i (0,0,0,0,0,0)).2.2.2.1):=by
 have b:=(zZh g (i:=i+1) (by omega)).h4;rw [zYT _ h] at b;exact nab b
theorem z2W {x:zX.T} (g:Full x) {i:Nat} (h:i<(zEu x).length):zAL ((sP (zEu x) i).2.2.2.2.1+((zEu x).getD i (0,0,0,0,0,0)).2.2.2.2.1):=by
 have b:=(zZh g (i:=i+1) (by omega)).h5;rw [zYT _ h] at b;exact nab b
theorem z2K {x:zX.T} (g:Full x) {i:Nat} (h:i<(zEu x).length):zAL ((sP (zEu x) i).2.2.2.2.2+((zEu x).getD i (0,0,0,0,0,0)).2.2.2.2.2):=by
 have b:=(zZh g (i:=i+1) (by omega)).h6;rw [zYT _ h] at b;exact nab b
def zT4 (l:List GT):Spec Nat where
 inv i:=i<=l.length
 live i:=[(9,.s (.int .i64 i))]
 keep:=[2,3,7,8]
 heap i:=[(1,.flat 38 [.int .i64 (sP l i).1,.int .i64 (sP l i).2.1,.int .i64 (sP l i).2.2.1,.int .i64 (sP l i).2.2.2.1,.int .i64 (sP l i).2.2.2.2.1,.int .i64 (sP l i).2.2.2.2.2])]
 keepH:=[0]
 mu i:=l.length - i
attribute [local irreducible] zEu sP
theorem zVm (x:zX.T) (g:Full x):zB7 ⟨tyL,[(21,zZ4)],[]⟩ f12 [(ETy.pt zX).av (some x)] (fun r=>r= .agg [.int .i64 (jT x).V,.int .i64 (jT x).E,.int .i64 (jT x).F,.int .i64 (jT x).B,.int .i64 (jT x).Eu,.int .i64 (jT x).Ge]):=by
 repeat' (conv=>whnf
          first|done|refine qy ?_|refine qG fun _=> ?_|refine qw (fun _=> ?_) (fun _=> ?_)|apply qt|refine qi (fun _=> ?_) (fun _=> ?_)|(refine j6 3 rfl (zT4 (zEu x)) (0) ?_ ?_ ?_ fun i hi=> ?_)|with_reducible refine jX (zT4 _) (i+1) ?_ ?_ ?_ ?_|refine qu ?_|refine qv ?_ ?_|exact zT)
 all_goals try first|refine qz ?_|apply qz5
 all_goals try simp only [qn0,yC,yA,ETy.dflt,Int.reduceToNat,Int.reduceAdd,Int.reduceSub,Int.reduceNeg,Nat.reduceAdd,zT4] at *
 all_goals try exact jQ.intro (by omega)
 all_goals try exact jQ.intro (jB _)
 all_goals try
  have q:i<(zEu x).length:=Int.ofNat_lt.1 (by assumption)
  first
  | exact jQ.intro (z2O g q)
  | exact jQ.intro (z2L g q)
  | exact jQ.intro (z3B g q)
  | exact jQ.intro (z2a g q)
  | exact jQ.intro (z2W g q)
  | exact jQ.intro (z2K g q)
  | (rw [zYT _ q];exact zAM.intro rfl)
 ·rw [show sP (zEu x) 0=(0,0,0,0,0,0) by unfold sP;rfl];exact zAM.intro rfl
 ·rw [zXr x (by omega)];exact jJ.intro rfl
def zMU:List AV->Option Res:=zO8 zX (fun x=>some (none,some (Full x),.agg [.int .i64 (jT x).V,.int .i64 (jT x).E,.int .i64 (jT x).F,.int .i64 (jT x).B,.int .i64 (jT x).Eu,.int .i64 (jT x).Ge]))
theorem zOp:zAI prog 12 zMU:=mkR (zE7 fun x r h=>by
 cases h
 exact fb (fn:=[(21,zZ4)]) ⟨zYM,trivial⟩ func12 fun _ h=>zVm x h) func12
end S1
namespace S1
def drT (a b:Int) (t:P3):P3:=zHA (dn a) (phT a b t)
def drG (a b:Int) (l:List P3) (i:Nat):Option P3:=if both a b (tg l i)=true then none else some (drT a b (tg l i))
def drL (a b:Int) (l:List P3) (i:Nat):List P3:=(List.range i).filterMap (drG a b l)
def zWV (t:P3) (k:Nat):Int:=[t.1,t.2.1,t.2.2].getD k 0
def zRK (a b:Int) (t:P3):Nat->Int
 | 0=>0
 | k+1=>if zWV t k=a\/zWV t k=b then zRK a b t k+1 else zRK a b t k
def mkT (a b:Int) (t:P3) (k:Nat):P3:=(if 0<k then dn a (ph a b t.1) else t.1,if 1<k then dn a (ph a b t.2.1) else t.2.1,if 2<k then dn a (ph a b t.2.2) else t.2.2)
theorem zHb (a b:Int) (l:List P3) (i:Nat):drL a b l (i+1)=drL a b l i++(drG a b l i).toList:=zBr _ _
theorem zYg (a b:Int) (l:List P3) (i:Nat):(drL a b l i).length<=i:=zJd _ _
theorem zSQ (a b:Int) (t:P3): ∀ k:Nat,0<=zRK a b t k/\zRK a b t k<=k
 | 0=>⟨Int.le_refl _,Int.le_refl _⟩
 | k+1=>by
   have:=zSQ a b t k;unfold zRK;split<;>omega
theorem zMK (a b:Int) (t:P3) (k:Nat):zRK a b t (k+1)=if zWV t k=a\/zWV t k=b then zRK a b t k+1 else zRK a b t k:=rfl
theorem zPS {a b:Int} {t:P3} (hd: ¬ dgn t) (hab:a≠b):zRK a b t 3>1↔both a b t=true:=by
 rw [zF6,zMK,zMK,zMK];obtain ⟨p,q,r⟩:=t;simp only [zWV,List.getD_cons_zero,List.getD_cons_succ,zV,dgn,zRK] at *
 by_cases hp:p=a\/p=b<;>by_cases hq:q=a\/q=b<;>by_cases hr:r=a\/r=b<;>simp only [hp,hq,hr,if_true,if_false]<;>constructor<;>intro h<;>omega
theorem zYx (a b:Int) (l:List P3):drL a b l l.length=(zDJ a b l).map (zHA (dn a)):=by
 have e:drL a b l l.length=l.filterMap fun t=>if both a b t=true then none else some (drT a b t):=by
  conv=>rhs;rw [<- zJb (0,0,0) l,List.filterMap_map]
  rfl
 rw [e];clear e
 induction l with
 | nil=>rfl
 | cons t r ih =>
   cases h:both a b t
   ·rw [List.filterMap_cons,h,if_neg (by decide),ih];show _=((List.filter _ (t::r)).map _).map _;rw [List.filter_cons,h];rfl
   ·rw [List.filterMap_cons,h,if_pos rfl,ih];show _=((List.filter _ (t::r)).map _).map _;rw [List.filter_cons,h];rfl
def zN9 (s:Int×List P3) (a b:Int):Int×List P3:=(s.1 - 1,(zDJ a b s.2).map (zHA (dn a)))
end S1
namespace S1
def zOA (n a b:Int) (l:List P3):Spec Nat where
 inv i:=i<=l.length
 live i:=[(8,.s (.int .i64 i))]
 keep:=[1,2,3,6,7]
 heap i:=[(2,.flat 24 [.int .i64 (n - 1),.own 3 0 (drL a b l i).length]),(3,.row .arr3 58 (drL a b l i))]
 keepH:=[0,1]
 mu i:=l.length - i
 nils:=[2]
def zNV (a b:Int) (t:P3):Spec Nat where
 inv k:=k<=3
 live k:=[(11,.s (.int .i64 k)),(9,.s (.int .i64 (zRK a b t k)))]
 keep:=[1,2,3,6,7,8,10]
 heap _:=[]
 keepH:=[0,1,2,3,4]
 mu k:=3 - k
def zOM (a b:Int) (t:P3):Spec Nat where
 inv k:=k<=3
 live k:=[(12,.s (.int .i64 k))]
 keep:=[1,2,3,6,7,8,10]
 heap k:=[(4,.flat 58 [.int .i64 (mkT a b t k).1,.int .i64 (mkT a b t k).2.1,.int .i64 (mkT a b t k).2.2])]
 keepH:=[0,1,2,3]
 mu k:=3 - k
theorem zZ2 {fn} (n:Int) (l:List P3) (a b:Int) (hn:0<=n/\n<=4096) (hl:l.length<=8192) (ha:0<=a) (hb:0<=b/\b<n) (hab:a≠b) (hf: ∀ i<l.length,InN n (tg l i).1/\InN n (tg l i).2.1/\InN n (tg l i).2.2/\¬ dgn (tg l i)):zB7 ⟨tyL,fn,[]⟩ f11 [zAa.av (n,l),jF.av a,jF.av b] (fun r=>r=zAa.av (n - 1,drL a b l l.length)):=by
 repeat' (conv=>whnf
          first|done|refine qy ?_|refine qG fun _=> ?_|refine qw (fun _=> ?_) (fun _=> ?_)|apply qt|refine qi (fun _=> ?_) (fun _=> ?_)|(refine zQr 3 rfl ?_;refine Or.inr (y5 (Nat) (y5 (zOA n a b l) (yH (y5 (0) (yH (jQ.out ?_) (yH ?_ (yH ?_ rfl)))) (fun i hi=> ?_)))))|with_reducible refine jX (zOA _ _ _ _) (i+1) ?_ ?_ ?_ ?_|(refine j6 8 rfl (zNV a b (l.getD i (0,0,0))) (0) ?_ ?_ ?_ fun k hk=> ?_)|with_reducible refine jX (zNV _ _ _) (k+1) ?_ ?_ ?_ ?_|(refine j6 14 rfl (zOM a b (l.getD i (0,0,0))) (0) ?_ ?_ ?_ fun q hq=> ?_)|with_reducible refine jX (zOM _ _ _) (q+1) ?_ ?_ ?_ ?_|refine qu ?_|refine qv ?_ ?_|exact zT)
 all_goals try first|refine qz ?_|apply qz5
 all_goals try simp only [qn0,yC,yA,ETy.dflt,Int.reduceToNat,Int.reduceAdd,Int.reduceSub,Int.reduceNeg,Nat.reduceAdd,zOA,zNV,zOM] at *
 all_goals try have hl1:=zYg a b l i
 all_goals try (refine jQ.intro ?_;omega)
 all_goals try have hi1:(i:Int)<l.length:=by assumption
 all_goals try have hf1:=hf i (by omega)
 all_goals try unfold tg at hf1
 all_goals try generalize ht:l.getD i (0,0,0)=t at *
 all_goals try have hN:=zSQ a b t k
 all_goals try (refine jQ.intro ?_;unfold zAL;omega)
 all_goals try
  have hq1:(q:Int)<3:=by assumption
  obtain ⟨u,v,w⟩:=t;have h3:q=0\/q=1\/q=2:=by omega
  simp only [dgn,InN] at hf1
  rcases h3 with e|e|e<;>subst e<;>clear hq1<;>simp [mkT,ph,dn] at* <;>first
   | (refine jQ.intro ?_;unfold zAL;omega)
   | (refine zAM.intro ?_;simp [*];done)
   | (refine zAM.intro ?_;have h9: ¬ a<b:=by omega
      simp [*];done)
   | (refine zAM.intro ?_;have h9: ¬ a<u:=by omega
      simp [*];done)
   | (refine zAM.intro ?_;have h9: ¬ a<v:=by omega
      simp [*];done)
   | (refine zAM.intro ?_;have h9: ¬ a<w:=by omega
      simp [*];done)
 all_goals try
  have h9:zWV t k=a\/zWV t k=b:=by first|exact .inl (by assumption)|exact .inr (by assumption)
  rw [zMK,if_pos h9]
 all_goals try
  have h9: ¬ (zWV t k=a\/zWV t k=b):=by rintro (h|h)<;>first|exact absurd h (by assumption)
  rw [zMK,if_neg h9]
 all_goals try have hk3:k=3:=by omega
 all_goals try subst hk3
 all_goals try
  have h9:drG a b l i=none:=by
   unfold drG tg;rw [ht,if_pos ((zPS hf1.2.2.2 hab).1 (by assumption))]
  first
   | (rw [zHb,h9];exact zAM.intro (by rw [Option.toList,yW]))
   | (rw [zHb,h9];exact yW _)
 all_goals try have hq3:q=3:=by omega
 all_goals try subst hq3
 all_goals try
  have h9:drG a b l i=some (mkT a b t 3):=by
   unfold drG tg;rw [ht,if_neg (fun h=>(by assumption: ¬ zRK a b t 3>1) ((zPS hf1.2.2.2 hab).2 h))];rfl
  first
   | (rw [zHb,h9];exact zAM.intro (by rw [Option.toList,z7];rfl))
   | (rw [zHb,h9];rfl)
 ·have hi9:i=l.length:=by omega
  subst hi9;exact jJ.intro rfl
def zHf:List AV->Option Res:=zNd zAa jF jF (fun s a b=>some (none,some (zJh s/\InN s.1 a/\InN s.1 b/\a≠b),zAa.av (zN9 s a b)))
theorem zMO:zAI prog 11 zHf:=mkR (zEI fun s a b r h=>by
 cases h;exact fb (fn:=[]) trivial func11 fun _ h=>by
  obtain ⟨hs,ha,hb,hab⟩:=h;unfold zN9;rw [<- zYx]
  exact zZ2 s.1 s.2 a b ⟨hs.fit.1,hs.fit.2.1⟩ hs.fit.2.2.1 ha.1 hb hab (fun i hi=>by have h4:=zBF (hs.fit.2.2.2 i hi);exact ⟨h4.1,h4.2.1,h4.2.2,hs.deg i hi⟩)) func11
end S1
namespace S1
def aw1:Int×List P3:=(4,[(0,1,2),(0,2,3),(0,3,1),(1,3,2)])
def aw2:Int×List P3:=(4,[(0,1,2),(2,1,3)])
def z3X (x:zX.T) (a b:Int) (l:List Int):Int :=
 if !zBh x a b then 1 else if (zDm x a b).length=2/\zAq x a=false/\zAq x b=false then 2
 else if zQd (zDm x a b) l=false then 3 else if zBi x a then 4 else 0
theorem zLQ (x:zX.T) (a b:Int):zHU x a b=z3X x a b (zG5 x a b):=rfl
theorem zLi {x:zX.T} {a b:Int} {l0 l:List Int} (hne:a≠b) (hl:((zDV x a).filter fun v=>zFp v (zDV x b))=l0) (hp:l0.Perm l) (hs:l.Pairwise (·<=·)):zG5 x a b=l:=by
 unfold zG5;rw [if_neg hne,hl];exact zM1 ((zG1 _).trans hp) (zGz _) hs
theorem z1r:(zRW aw1).1=0:=by decide +kernel
theorem zPF:(zRW aw2).1=0:=by decide +kernel
theorem z1V:zWK (zF0 aw1) 0 1=4:=by
 rw [zIg z1r];show zHU (jO aw1) 0 1=4;rw [zLQ,zLi (l0:=[2,3]) (l:=[2,3]) (by decide) (by decide +kernel) (.refl _) (by decide)];decide +kernel
theorem z0i:zWK (zF0 aw2) 1 2=2:=by
 rw [zIg zPF];show zHU (jO aw2) 1 2=2;rw [zLQ,zLi (l0:=[3,0]) (l:=[0,3]) (by decide) (by decide +kernel) (.swap ..) (by decide)];decide +kernel
theorem z1d:zWK (zF0 aw2) 0 1=0:=by
 rw [zIg zPF];show zHU (jO aw2) 0 1=0;rw [zLQ,zLi (l0:=[2]) (l:=[2]) (by decide) (by decide +kernel) (.refl _) (by decide)];decide +kernel
theorem z2F:zVF (zF0 aw2) 0 3=[1,2]:=by
 rw [zIg zPF];show zG5 (jO aw2) 0 3=[1,2];rw [zLi (l0:=[1,2]) (l:=[1,2]) (by decide) (by decide +kernel) (.refl _) (by decide)]
theorem z1f:zWK (zF0 aw2) 0 3=1:=by
 rw [zIg zPF];show zHU (jO aw2) 0 3=1
 have:zG5 (jO aw2) 0 3=[1,2]:=by
  rw [zLi (l0:=[1,2]) (l:=[1,2]) (by decide) (by decide +kernel) (.refl _) (by decide)]
 rw [zLQ,this];decide +kernel
attribute [local irreducible] zF0 zWK zVF
theorem zWm:zB7 ⟨tyL,[(10,z0K),(25,z2B),(9,zZL),(24,zZl)],[]⟩ Try.f6 [] (fun r=>r= .s (.bool true)):=by
 have a1:=z1V;have a2:=z0i;have a3:=z1d;have a4:=z2F;have a5:=z1f
 repeat' (conv=>whnf
          first|done|refine qy ?_|refine qG fun _=> ?_|refine qw (fun _=> ?_) (fun _=> ?_)|apply qt|refine qi (fun _=> ?_) (fun _=> ?_)|refine qu ?_|refine qv ?_ ?_|exact zT)
 all_goals try first|refine qz ?_|apply qz5
 all_goals try simp only [qn0,yC,yA,ETy.dflt,Int.reduceToNat,Int.reduceAdd,Int.reduceSub,Int.reduceNeg,Nat.reduceAdd] at *
 all_goals try have a1': ¬ zWK (zF0 aw1) 0 1=0:=by rw [a1];decide
 all_goals try have a4':((zVF (zF0 aw2) 0 3).length:Int)=2:=by rw [a4];rfl
 all_goals try have a6:(zVF (zF0 aw2) 0 3).getD 0 0=1:=by rw [a4];rfl
 all_goals try have a7:(zVF (zF0 aw2) 0 3).getD 1 0=2:=by rw [a4];rfl
 all_goals first
  | exact jQ.intro zTb
  | exact absurd a1 (by assumption)
  | exact absurd a2 (by assumption)
  | exact absurd a3 (by assumption)
  | exact absurd a4' (by assumption)
  | exact absurd a5 (by assumption)
  | exact absurd a6 (by assumption)
  | exact absurd a7 (by assumption)
  | exact absurd (by assumption) a1'
  | skip
 ·show (decide ((zVF (zF0 aw2) 0 3).getD 1 0=2))=true;exact decide_eq_true a7
end S1
namespace S1
def zGF:List AV->Option Res
 | []=>some (none,none,.s (.bool true))
 | _=>none
theorem zJ5:zAI prog 6 zGF:=⟨fun args r h=>by
 cases args with
 | nil=>cases h;exact fb (fn:=[(10,z0K),(25,z2B),(9,zZL),(24,zZl)]) ⟨newRow,zXQ,zTk,zSF,trivial⟩ func6 fun _ _=>zWm
 | cons a l=>(cases h),_,func6,by kernel_rfl,by kernel_rfl⟩
end S1
namespace S1
end S1
namespace S1
theorem z1O {I:Sig} {Z:yN} {v:Value} (h:qA I Z ((ETy.pt zX).av none) v):qA I Z (z1C none) v:=by
 have h:[v]=[Value.pointer none]:=h;exact ⟨(List.cons.inj h).1,by simp [z1z]⟩
theorem zDn.res {P:Program} {f:FuncId} {args:List AV} {p q:Option Prop} {u u':AV} (h:zDn P f args (p,q,u)) (hu: ∀ (I:Sig) (v:Value),qA I [] u v->qA I [] u' v):zDn P f args (p,q,u') :=
 fun I vals w h1 h2=>⟨(h I vals w h1 h2).1,fun hq=>((h I vals w h1 h2).2 hq).mono fun _ _ ⟨v,σ',e1,e2,e3,e4,e5,e6⟩=>⟨v,σ',e1,e2,e3,e4,hu σ' v e5,e6⟩⟩
end S1
namespace S1
def zIH (s:Int×List P3):Int:=if s.2.length>40 then 1 else if s.1>60 then 1 else if s.1< -1000 then 1 else 0
theorem zXG {fn} (n:Int) (l:List P3):zB7 ⟨tyL,fn,[]⟩ Try.f26 [zAa.av (n,l)] (fun r=>r= .s (.int .i64 (zIH (n,l)))):=by
 repeat' (conv=>whnf
          first|done|refine qy ?_|refine qG fun _=> ?_|refine qw (fun _=> ?_) (fun _=> ?_)|apply qt|refine qi (fun _=> ?_) (fun _=> ?_)|refine qu ?_|refine qv ?_ ?_|exact zT)
 all_goals try first|refine qz ?_|apply qz5
 all_goals try simp only [qn0,yC,yA,ETy.dflt,Int.reduceToNat,Int.reduceAdd,Int.reduceSub,Int.reduceNeg,Nat.reduceAdd,zIH] at *
 ·rw [if_pos (by omega)]
 ·rw [if_neg (by omega),if_pos (by omega)]
 ·rw [if_neg (by omega),if_neg (by omega),if_pos (by omega)]
 ·rw [if_neg (by omega),if_neg (by omega),if_neg (by omega)]
def zUB:List AV->Option Res:=zGM zAa (fun s=>some (none,none,.s (.int .i64 (zIH s))))
theorem zWs:zAI prog 26 zUB:=mkR (zBJ fun s r h=>by cases h;exact fb (fn:=[]) trivial func26 fun _ _=>zXG s.1 s.2) func26
def zJB (s:Int×List P3):Option zX.T:=if zIH s=1 then none else zF0 s
theorem zYk (n:Int) (l:List P3):zB7 ⟨tyL,[(26,zUB),(10,z0K)],[]⟩ Try.f7 [zAa.av (n,l)] (fun r=>r=if zIH (n,l)=1 then z1C none else (ETy.pt zX).av (zF0 (n,l))):=by
 repeat' (conv=>whnf
          first|done|refine qy ?_|refine qG fun _=> ?_|refine qw (fun _=> ?_) (fun _=> ?_)|apply qt|refine qi (fun _=> ?_) (fun _=> ?_)|refine qu ?_|refine qv ?_ ?_|exact zT)
 all_goals try first|refine qz ?_|apply qz5
 all_goals try simp only [qn0,yC,yA,ETy.dflt,Int.reduceToNat,Int.reduceAdd,Int.reduceSub,Int.reduceNeg,Nat.reduceAdd] at *
 ·rw [if_pos (by assumption)];exact jJ.intro rfl
 ·rw [if_neg (by assumption)];exact jJ.intro rfl
def zZf:List AV->Option Res:=zGM zAa (fun s=>some (none,none,(ETy.pt zX).av (zJB s)))
theorem zRc:zAI prog 7 zZf:=mkR (zBJ fun s r h=>by
 cases h;refine zDn.out (fb (fn:=[(26,zUB),(10,z0K)]) ⟨zWs,newRow,trivial⟩ func7 fun _ _=>zYk s.1 s.2) fun I v h=> ?_;unfold zJB;split at h
 ·rename_i e;rw [if_pos e];exact zPA h
 ·rename_i e
  rw [if_neg e];exact h) func7
end S1
namespace S1
theorem zS0 {s:Int×List P3} {x:zX.T} (h:zJB s=some x):x=jO s/\Full x/\zJh s/\zIH s=0:=by
 unfold zJB at h;split at h
 ·cases h
 ·rename_i hg;obtain ⟨h1,h2,h3⟩:=zQF h;refine ⟨h1,h2,h3,?_⟩;unfold zIH at hg ⊢;split
  ·rename_i h;rw [if_pos h] at hg;exact absurd rfl hg
  ·rename_i h;rw [if_neg h] at hg;split
   ·rename_i h;rw [if_pos h] at hg;exact absurd rfl hg
   ·rename_i h;rw [if_neg h] at hg;split
    ·rename_i h;rw [if_pos h] at hg;exact absurd rfl hg
    ·rfl
def zS2 (x:zX.T):List AV->Option Res:=zGM zAa (fun s=>some (none,some (zJB s=some x),(ETy.pt zX).av (some x)))
theorem zWY (x:zX.T):zAI prog 7 (zS2 x):=mkR (zBJ fun s r h=>by
 cases h;intro I vals w hag hv;refine ⟨trivial,fun hq=> ?_⟩;have:=(zRc.1 _ _ (rfl:zZf [zAa.av s]=_) I vals w hag hv).2 trivial;rw [show zJB s=some x from hq] at this
 exact this) func7
def zRz:List AV->Option Res:=zGM zAa (fun s=>some (none,some (zJB s=none),z1C none))
theorem zWt:zAI prog 7 zRz:=mkR (zBJ fun s r h=>by
 cases h;intro I vals w hag hv;refine ⟨trivial,fun hq=> ?_⟩;have hv0:=hv;have:=(zRc.1 _ _ (rfl:zZf [zAa.av s]=_) I vals w hag hv).2 trivial;rw [show zJB s=none from hq] at this;refine this.mono fun e w' ⟨v,σ',e1,e2,e3,e4,e5,e6⟩=>⟨v,σ',e1,e2,e3,e4,?_,e6⟩
 exact z1O e5) func7
end S1
namespace S1
def zSb:List AV->Option Res:=zGM zAa (fun s=>some (none,some (zF0 s=some (jO s)),.tup [(ETy.pt zX).av (some (jO s)),zCx.av (0,0,0)]))
theorem zRS:zAI prog 10 zSb:=mkR (zBJ fun s r h=>by
 cases h;intro I vals w hag hv;refine ⟨trivial,fun hq=> ?_⟩;have:=(newRow.1 _ _ (rfl:z0K [zAa.av s]=_) I vals w hag hv).2 trivial
 have h0:zL5 s=(0,0,0):=by
  have hq:zF0 s=some (jO s):=hq;unfold zF0 at hq;split at hq
  ·exact zX3 (by assumption)
  ·cases hq
 rw [show zF0 s=some (jO s) from hq,h0] at this
 exact this) func10
structure LLF (x y:zX.T) (e:Int×Int) (k:Int):Prop where
 ny:zF0 (zN9 x.1 e.1 e.2)=some (jO (zN9 x.1 e.1 e.2))
 nd:zJh x.1/\InN x.1.1 e.1/\InN x.1.1 e.2/\e.1≠e.2
 fy:Full y
 V:(jT y).V=(jT x).V - 1
 E:(jT y).E=(jT x).E - k - 1
 F:(jT y).F=(jT x).F - k
 Eu:(jT y).Eu=(jT x).Eu
 B:(jT y).B=(jT x).B
 Ge:(jT y).Ge=(jT x).Ge
theorem zVz {x:zX.T} (g:Full x) (hx:x=jO x.1) (hs:zJh x.1) {c:Int} (hc:zAX x c=true) (hw:zHU x (qX x c).1 (qX x c).2=0):LLF x (jO (zN9 x.1 (qX x c).1 (qX x c).2)) (qX x c) (if zAY x c<0 then 1 else 2):=by
 have hM:=(zX7 g (zBd hs)).1 hw;have hS:=zMP g hs hw;have e:=zQF (zJm hS).1;have k:=zU8 hs hM;rw [<- hx] at k;have bl:=zKg g (zBd hs) hc
 have ek:(((x.1.2.filter (both (qX x c).1 (qX x c).2)).length:Nat):Int)=if zAY x c<0 then 1 else 2:=by
  rw [bl]
  by_cases q:zAY x c<0
  ·rw [if_pos q,if_neg (by omega)];rfl
  ·rw [if_neg q,if_pos (by omega)];rfl
 obtain ⟨k1,k2,k3,k4,k5,k6⟩:=k;refine ⟨(zJm hS).1,⟨hs,zAn g.fit (zA2 hc).1,zAn g.fit (zA2 hc).2,g.ends c hc⟩,e.2.1,k1,?_,?_,k5,k4,k6⟩
 ·rw [<- ek];have k2:(jT (jO (zN9 x.1 (qX x c).1 (qX x c).2))).E=(jT x).E - (((x.1.2.filter (both (qX x c).1 (qX x c).2)).length+1:Nat):Int):=k2;omega
 ·rw [<- ek];exact k3
theorem zYH {x:zX.T} (g:Full x):SB (gn6 (jT x)) 409600000:=by
 rw [<- zXr x rfl];exact zZh g (zI _)
attribute [local irreducible] jO zN9 jT zHU
theorem lawLL_vc (n:Int) (l:List P3) (b:Int) (x:zX.T) (hb:0<=b/\b<=255) (hx:zJB (n,l)=some x):zB7 ⟨tyL,[(6,zGF),(7,zS2 x),(8,zHJ),(9,zZL),(11,zHf),(10,zSb),(12,zMU),(13,zNh)],[]⟩ Try.f3 [zAa.av (n,l),(ETy.int .u8).av b] (fun r=>r= .s (.bool true)):=by
 obtain ⟨h1,g,hs,_⟩:=zS0 hx;have e1:x.1=(n,l):=by rw [h1];unfold jO;rfl
 repeat' (conv=>whnf
          first|done|refine qy ?_|refine qG fun _=> ?_|refine qw (fun _=> ?_) (fun _=> ?_)|apply qt|refine qi (fun _=> ?_) (fun _=> ?_)|refine qu ?_|refine qv ?_ ?_|exact zT)
 all_goals try first|refine qz ?_|apply qz5
 all_goals try simp only [qn0,yC,yA,ETy.dflt,Int.reduceToNat,Int.reduceAdd,Int.reduceSub,Int.reduceNeg,Nat.reduceAdd] at *
 all_goals
  have hl0:0<l.length:=by
   have q:((l.length:Nat):Int)≠0:=by assumption
   omega
  have hl1:l.length<=8192:=hs.fit.2.2.1;have hr:0<=b.tmod (3*(l.length:Int))/\b.tmod (3*(l.length:Int))<3*(l.length:Int):=⟨Int.tmod_nonneg _ hb.1,Int.tmod_lt_of_pos _ (by omega)⟩;have hc:zAX x (b.tmod (3*(l.length:Int)))=true:=z6.2 (by rw [e1];exact hr)
 all_goals try exact jQ.intro (show (b.tmod (3*(l.length:Int)):Int)<=1000000 by omega)
 all_goals try exact jQ.intro (fun y e=>by cases e;exact g.toGood)
 all_goals
  have f:=zVz g (by rw [e1];exact h1) (by rw [e1];exact hs) hc (by assumption);obtain ⟨b1,b2,b3,b4,b5,b6⟩:=zYH g;have b1:(jT x).V.natAbs<=409600000:=b1;have b2:(jT x).E.natAbs<=409600000:=b2;have b3:(jT x).F.natAbs<=409600000:=b3;have f7:=f.nd;have f8:=f.ny;have f9:=f.fy;rw [e1] at f f7 f8
 ·exact jQ.intro f7
 ·exact jQ.intro f8
 ·exact jQ.intro (by rw [e1] at f9;exact f9)
 all_goals try (refine jQ.intro ?_;unfold zAL;omega)
 all_goals
  obtain ⟨_,_,_,f1,f2,f3,f4,f5,f6⟩:=f
  first
  | rw [if_pos (by assumption)] at f2 f3
  | rw [if_neg (by assumption)] at f2 f3
 all_goals first|exact beq_iff_eq.2 f6|exact absurd f1 (by assumption)|exact absurd f2 (by assumption)|exact absurd f3 (by assumption)|exact absurd f4 (by assumption)|exact absurd f5 (by assumption)
theorem lawLL0_vc (n:Int) (l:List P3) (b:Int) (hx:zJB (n,l)=none):zB7 ⟨tyL,[(6,zGF),(7,zRz),(8,zHJ),(9,zZL),(11,zHf),(10,zSb),(12,zMU),(13,zNh)],[]⟩ Try.f3 [zAa.av (n,l),(ETy.int .u8).av b] (fun r=>r= .s (.bool true)):=by
 repeat' (conv=>whnf
          first|done|refine qy ?_|refine qG fun _=> ?_|refine qw (fun _=> ?_) (fun _=> ?_)|apply qt|refine qi (fun _=> ?_) (fun _=> ?_)|refine qu ?_|refine qv ?_ ?_|exact zT)
 all_goals try first|refine qz ?_|apply qz5
 all_goals try simp only [qn0,yC,yA,ETy.dflt,Int.reduceToNat,Int.reduceAdd,Int.reduceSub,Int.reduceNeg,Nat.reduceAdd] at *
 all_goals exact jQ.intro hx
def lawLLC:List AV->Option Res:=zNH zAa (.int .u8) (fun _ _=>some (none,none,.s (.bool true)))
theorem lawLLRow:zAI prog 3 lawLLC:=mkR (zCh fun s b r h=>by
 cases h;cases hx:zJB s with
 | none=>exact fb (fn:=[(6,zGF),(7,zRz),(8,zHJ),(9,zZL),(11,zHf),(10,zSb),(12,zMU),(13,zNh)]) ⟨zJ5,zWt,zGR,zTk,zMO,zRS,zOp,zFb,trivial⟩ func3 fun hg _=>lawLL0_vc s.1 s.2 b hx
 | some x=>exact fb (fn:=[(6,zGF),(7,zS2 x),(8,zHJ),(9,zZL),(11,zHf),(10,zSb),(12,zMU),(13,zNh)]) ⟨zJ5,(zWY x),zGR,zTk,zMO,zRS,zOp,zFb,trivial⟩ func3 fun hg _=>lawLL_vc s.1 s.2 b x (InK.u8 hg.2.1) hx) func3
end S1
