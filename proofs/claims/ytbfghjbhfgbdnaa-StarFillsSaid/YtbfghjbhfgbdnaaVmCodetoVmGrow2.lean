/- A part of the proofs of the laws. -/
import Derived.Test.YtbfghjbhfgbdnaaVmEfftoVmHeap
import Derived.WideKeyEntry
set_option linter.unusedSimpArgs false
set_option linter.unusedVariables false
set_option maxHeartbeats 8000000
set_option maxRecDepth 100000
namespace Go.Vm
open Go.RowKit
def zSn (o:Oper):Bool:=jN o.op|| (((jG o.op).isSome|| (zBG o.op).isSome)&&o.guard.isNone)
def zLn:List Oper->Nat
 | []=>0
 | o::l=>match jN o.op|| ((jG o.op).isSome&&o.guard.isNone) with|true=>zLn l+1|false=>0
def zAH:List Oper->List Tmp
 | []=>[]
 | o::l=>match jG o.op,o.dst with
   | some _,some d=>d::zAH l
   | _,_=>zAH l
def zP0 (ops:Array Oper) (D:List Tmp):List Oper->Bool
 | []=>true
 | o::l=>(!(jN o.op)|| (o.looksAt ops).all fun t=> !D.contains t)&&zP0 ops D l
def zCG:List Oper->List Tmp
 | []=>[]
 | o::l=>match zBG o.op with
   | some (_,d,_)=>d::zCG l
   | none=>zCG l
def zEb (D:List Tmp):List Oper->Nat
 | []=>0
 | o ::l=>match jN o.op with
   | true=>zEb D l+1
   | false=>match jG o.op,o.dst,zBG o.op,o.guard with
     | some _,some d,_,none=>zEb (d::D) l+1
     | none,_,some (_,d,_),none=>match zR4 d D with|true=>zEb D l+1|false=>0
     | _,_,_,_=>0
def zIa:List (Tmp×TypeId)->List Oper->Bool
 | _,[]=>true
 | A,o::l=>(match zBG o.op with
     | some (t,d,_)=>A.any fun x=>Nat.beq x.1 d&&Nat.beq x.2 t
     | none=>true)&&zIa (match jG o.op,o.dst with|some t,some d=>(d,t)::A|_,_=>A) l
def zWr (D:List Tmp):List Oper->Bool
 | []=>true
 | o::l=>(match jG o.op,o.dst with|none,some d=> !zR4 d D|_,_=>true)&&zWr D l
def zH4:List Oper->Bool
 | []=>true
 | o::l=>(match jG o.op with|some _=>o.dst.isSome|none=>true)&&zH4 l
def zLJ (l:List Oper):Bool :=
 nodupB (zAH l)&&nodupB (zCG l)&&zIa [] l&&zWr (zAH l) l&&zH4 l
def zPh (ops:Array Oper) (k:Nat):Bool :=
 Nat.ble k ops.size&&(ops.toList.take k).all zSn&&zLJ (ops.toList.take k) &&
 (zP0 ops (zAH (ops.toList.take k)) (ops.toList.take k)&&zLM ops k k 0 (Array.replicate ops.size false) &&
   zFP ops (ops.size - k) k ((List.range k).foldl (fun l i=>l.setIfInBounds i true) (Array.replicate ops.size false)))
def zTd (ops:Array Oper):Bool:=(zPh ops (zLn ops.toList)|| zPh ops (zEb [] ops.toList))|| zPR false ops (zHa false ops.toList)
def zZi (ops:Array Oper):Bool:=zO2 ops ops.toList 0|| zNf ops ops.toList 0|| zY1 ops ops.toList 0|| storeAt ops ops.toList 0|| zTd ops
def codeOk (N:Nat):Code->Bool
 | .region _ ops draw=>ops.toList.all (y4 N)&&(!draw|| zZi ops)
 | .seq a b=>codeOk N a&&codeOk N b
 | .cond c a b=>zED c&&codeOk N a&&codeOk N b
 | .block _ c=>codeOk N c
 | .loop c=>codeOk N c
 | .skip=>true
 | .label _=>true
 | .exit _=>true
 | .goto _=>true
 | .ret=>true
 | _=>false
section
variable {P:Program} {B:Base} {w:World} {I:Sig} {M:yN} {st:St} {T:Tab} {N:Nat} {a:Act} {r:Option Nat} {n:Nat} {ops:Array Oper} {Q:Exit->Act->World->Prop}
theorem zC9 {o:Oper} {K:Act->World->Prop} (h:o.wpIn (FR r) n P a w K (fun _ _ _=>False)): ∃ a' w',K a' w':=by
 obtain ⟨_,h⟩:=h;generalize (o.semAt (FR r).round a.eval).run P w=res at h;cases res with
 | halt x w'=>cases x<;>simp only [Oper.uponIn] at h
 | ok nx w' =>
   cases nx<;>simp only [Oper.uponIn] at h
   case value v=>exact ⟨_,_,h⟩
   case skip=>exact ⟨_,_,h⟩
   case defer d=>exact ⟨_,_,h⟩
   case enter f args =>
    obtain ⟨e,w'',fr,hR,_⟩:=h.2.2 [] (fun d hd=>by cases hd);cases e with
    | returned v=>exact ⟨_,_,hR⟩
    | panicked c=>exact hR.elim
    | outgrown=>obtain ⟨_,_,hR⟩:=hR;exact hR.elim
   case row row args =>
    obtain ⟨v,w'',hR,_⟩:=h.2 default [] (fun d hd=>by cases hd);exact ⟨_,_,hR⟩
   case round l f tmps assign body =>
    obtain ⟨e,w'',hR,_⟩:=h.2.2 default [] (fun d hd=>by cases hd);cases e with
    | returned v=>exact ⟨_,_,hR⟩
    | panicked c=>exact hR.elim
    | outgrown=>obtain ⟨_,_,hR⟩:=hR;exact hR.elim
def zBN (ops:Array Oper) (k i:Nat) (t:TypeId):Prop:=i<k/\∃ o,ops[i]? =some o/\jG o.op=some t
def zEA (d:Tmp):List Oper->Nat->Option Nat
 | [],_=>none
 | o::l,n=>match zBG o.op with
   | some (_,d',_)=>if d'=d then some n else zEA d l (n+1)
   | none=>zEA d l (n+1)
def initOf (ops:Array Oper) (k j:Nat):Option Nat:=match ops[j]? with
 | some o=>match o.dst with
   | some d=>zEA d (ops.toList.take k) 0
   | none=>none
 | none=>none
def zW9 (ops:Array Oper) (k:Nat) (gf:Nat->List AS) (was:Nat->Bool) (z:List AS) (j:Nat):List AS:=match initOf ops k j with
 | some i=>match was i with
   | true=>zAk z 0 (gf i)
   | false=>z
 | none=>z
theorem zER {d:Tmp} : ∀ {l:List Oper} {n i:Nat},zEA d l n=some i->∃ m o t x,i=n+m/\l[m]? =some o/\zBG o.op=some (t,d,x)
 | [],_,_,h=>by cases h
 | o ::l,n,i,h=>by
   simp only [zEA] at h;split at h
   ·rename_i t d' x hi;split at h
    ·rename_i e;subst e;cases h;exact ⟨0,o,t,x,rfl,rfl,hi⟩
    ·obtain ⟨m,o',t',x',e1,e2,e3⟩:=zER h;exact ⟨m+1,o',t',x',by omega,by simpa using e2,e3⟩
   ·obtain ⟨m,o',t',x',e1,e2,e3⟩:=zER h;exact ⟨m+1,o',t',x',by omega,by simpa using e2,e3⟩
theorem zEi {i:Nat} : ∀ {l:List Nat},zR4 i l=true↔i∈l
 | []=>by simp [zR4]
 | k ::r=>by
   simp only [zR4]
   by_cases e:k=i
   ·subst e;simp [qF]
   ·have:Nat.beq k i=false:=by
     cases h:Nat.beq k i with
     | false=>rfl
     | true=>exact (e (zC h)).elim
    rw [this];simp only [zEi (l:=r),zP];exact ⟨.inr,fun h=>h.resolve_left (fun h=>e h.symm)⟩
theorem zFd {o:Oper} {t:TypeId} {d:Tmp} {x:Operand} (hi:zBG o.op=some (t,d,x)): ∀ {l:List Oper},o∈l->d∈zCG l
 | [],h=>by cases h
 | o'::l,h=>by
   simp only [zCG];rcases zP.1 h with rfl|h
   ·rw [hi];exact zQ
   ·have:=zFd hi h;split
    ·exact zM _ this
    ·exact this
theorem zFM {o:Oper} {t:TypeId} {d:Tmp} {x:Operand} (hi:zBG o.op=some (t,d,x)): ∀ {l:List Oper} {n m:Nat},nodupB (zCG l)=true->l[m]? =some o->zEA d l n=some (n+m)
 | [],_,_,_,h=>by simp at h
 | o'::l,n,0,_,h=>by
   simp at h;subst h;simp only [zEA,hi,if_true];rfl
 | o'::l,n,m+1,hn,h=>by
   have h':l[m]? =some o:=by simpa using h
   simp only [zEA];split
   ·rename_i t' d' x' hi';simp only [zCG,hi',nodupB,zA,y8] at hn
    have hne:d'≠d:=by
     rintro rfl;have:=zEi.2 (zFd hi (yP h'));rw [this] at hn;cases hn.1
    rw [if_neg hne,zFM hi hn.2 h'];congr 1;omega
   ·rename_i hi';simp only [zCG,hi'] at hn;rw [zFM hi hn h'];congr 1;omega
theorem zBc {o:Oper} {t:TypeId} {d:Tmp} (ha:jG o.op=some t) (hd:o.dst=some d): ∀ {l:List Oper},o∈l->d∈zAH l
 | [],h=>by cases h
 | o'::l,h=>by
   simp only [zAH];rcases zP.1 h with rfl|h
   ·rw [ha,hd];exact zQ
   ·have:=zBc ha hd h;split
    ·exact zM _ this
    ·exact this
theorem zEx {o o':Oper} {t t':TypeId} {d:Tmp} (ha:jG o.op=some t) (hd:o.dst=some d) (ha':jG o'.op=some t') (hd':o'.dst=some d) :
 ∀ {l:List Oper} {i j:Nat},nodupB (zAH l)=true->l[i]? =some o->l[j]? =some o'->i=j
 | [],_,_,_,h,_=>by simp at h
 | x::l,0,0,_,_,_=>rfl
 | x::l,0,j+1,hn,h,h'=>by
   simp at h;subst h;simp only [zAH,ha,hd,nodupB,zA,y8] at hn;have:=zEi.2 (zBc ha' hd' (yP (by simpa using h':l[j]? =some o')));rw [this] at hn;cases hn.1
 | x::l,i+1,0,hn,h,h'=>by
   simp at h';subst h';simp only [zAH,ha',hd',nodupB,zA,y8] at hn;have:=zEi.2 (zBc ha hd (yP (by simpa using h:l[i]? =some o)));rw [this] at hn;cases hn.1
 | x ::l,i+1,j+1,hn,h,h'=>by
   have hn':nodupB (zAH l)=true:=by
    simp only [zAH] at hn;split at hn
    ·simp only [nodupB,zA] at hn;exact hn.2
    ·exact hn
   have e:i=j:=zEx ha hd ha' hd' hn' (by simpa using h) (by simpa using h');rw [e]
structure zVn (ops:Array Oper) (k:Nat):Prop where
 initOf: ∀ (i j:Nat) (o oj:Oper) (t t':TypeId) (d:Tmp) (x:Operand),i<k->j<k->ops[i]? =some o->ops[j]? =some oj->zBG o.op=some (t,d,x)->jG oj.op=some t'->oj.dst=some d->initOf ops k j=some i
 inj: ∀ (i j:Nat) (o oj:Oper) (t t':TypeId) (d:Tmp),i<k->j<k->ops[i]? =some o->ops[j]? =some oj->jG o.op=some t->jG oj.op=some t'->o.dst=some d->oj.dst=some d->i=j
 has: ∀ (i:Nat) (o:Oper) (t:TypeId) (d:Tmp) (x:Operand),i<k->ops[i]? =some o->zBG o.op=some (t,d,x)->∃ (j:Nat) (oj:Oper),j<i/\ops[j]? =some oj/\jG oj.op=some t/\oj.dst=some d
 dst: ∀ (i:Nat) (o:Oper) (d:Tmp) (j:Nat) (oj:Oper) (t:TypeId),i<k->j<k->ops[i]? =some o->ops[j]? =some oj->jG o.op=none->jG oj.op=some t->oj.dst=some d->o.dst≠some d
 slot: ∀ (i:Nat) (o:Oper) (t:TypeId),i<k->ops[i]? =some o->jG o.op=some t->∃ d,o.dst=some d
theorem zGw: ∀ {l:List Oper} {A:List (Tmp×TypeId)},zIa A l=true->∀ (i:Nat) (o:Oper) (t:TypeId) (d:Tmp) (x:Operand),l[i]? =some o->zBG o.op=some (t,d,x)->(d,t)∈A\/∃ (j:Nat) (oj:Oper),j<i/\l[j]? =some oj/\jG oj.op=some t/\oj.dst=some d
 | [],_,_,i,o,t,d,x,h,_=>by simp at h
 | y::l,A,hc,0,o,t,d,x,h,hi=>by
   simp at h;subst h;simp only [zIa,hi,zA,z4W] at hc;obtain ⟨⟨⟨d',t'⟩,h1,h2,h3⟩,_⟩:=hc;have:=zC h2;have:=zC h3;simp only at *
   subst_vars
   exact .inl h1
 | y ::l,A,hc,i+1,o,t,d,x,h,hi=>by
   simp only [zIa,zA] at hc;rcases zGw hc.2 i o t d x (by simpa using h) hi with h1|⟨j,oj,h1,h2,h3,h4⟩
   ·split at h1
    ·rename_i t' d' ha hd;rcases zP.1 h1 with e|e
     ·cases e;exact .inr ⟨0,y,by omega,rfl,ha,hd⟩
     ·exact .inl e
    ·exact .inl h1
   ·exact .inr ⟨j+1,oj,by omega,by simpa using h2,h3,h4⟩
theorem zGS {D:List Tmp} : ∀ {l:List Oper},zWr D l=true->∀ o∈l,jG o.op=none->∀ d,o.dst=some d->d∉D
 | [],_,_,h,_,_,_=>by cases h
 | y ::l,hc,o,h,ha,d,hd=>by
   simp only [zWr,zA] at hc;rcases zP.1 h with rfl|h
   ·have:=hc.1;rw [ha,hd] at this;simp only [y8] at this;intro hm;rw [zEi.2 hm] at this;cases this
   ·exact zGS hc.2 o h ha d hd
theorem zFu: ∀ {l:List Oper},zH4 l=true->∀ o∈l,∀ t:TypeId,jG o.op=some t->∃ d,o.dst=some d
 | [],_,_,h,_,_=>by cases h
 | y::l,hc,o,h,t,ha=>by
   simp only [zH4,zA] at hc;rcases zP.1 h with rfl|h
   ·have:=hc.1;rw [ha] at this;exact zBP.1 this
   ·exact zFu hc.2 o h t ha
theorem zWJ {k:Nat} (h:zLJ (ops.toList.take k)=true):zVn ops k:=by
 simp only [zLJ,zA] at h;obtain ⟨⟨⟨⟨h1,h2⟩,h3⟩,h4⟩,h5⟩:=h
 have get: ∀ {i:Nat} {o:Oper},i<k->ops[i]? =some o->(ops.toList.take k)[i]? =some o:=fun {i o} hi ho=>by
  rw [yS,if_pos hi];simpa using ho
 have back: ∀ {i:Nat} {o:Oper},(ops.toList.take k)[i]? =some o->i<k/\ops[i]? =some o:=fun {i o} ho=>by
  rw [yS] at ho;split at ho
  ·rename_i hi;exact ⟨hi,by simpa using ho⟩
  ·cases ho
 refine ⟨fun i j o oj t t' d x hi hj ho hoj hin ha hd=> ?_,fun i j o oj t t' d hi hj ho hoj ha ha' hd hd'=> ?_,fun i o t d x hi ho hin=> ?_,fun i o d j oj t hi hj ho hoj hn ha hd=> ?_,fun i o t hi ho ha=> ?_⟩
 ·simp only [Vm.initOf,hoj,hd];have:=zFM (n:=0) hin h2 (get hi ho);rw [yK] at this;exact this
 ·exact zEx ha hd ha' hd' h1 (get hi ho) (get hj hoj)
 ·rcases zGw h3 i o t d x (get hi ho) hin with e|⟨j,oj,q1,q2,q3,q4⟩
  ·cases e
  ·exact ⟨j,oj,q1,(back q2).2,q3,q4⟩
 ·intro e;exact zGS h4 o (yP (get hi ho)) hn d e (zBc ha hd (yP (get hj hoj)))
 ·exact zFu h5 o (yP (get hi ho)) t ha
theorem zA9 {k i j:Nat} (h:initOf ops k j=some i):i<k/\∃ o oj t d x,ops[i]? =some o/\ops[j]? =some oj/\zBG o.op=some (t,d,x)/\oj.dst=some d:=by
 unfold initOf at h;split at h
 ·rename_i oj hoj;split at h
  ·rename_i d hd;obtain ⟨m,o,t,x,e1,e2,e3⟩:=zER h;rw [yK] at e1;subst e1;rw [yS] at e2;split at e2
   ·rename_i hm;exact ⟨hm,o,oj,t,d,x,by simpa using e2,hoj,e3,hd⟩
   ·cases e2
  ·cases h
 ·cases h
theorem zIZ {op:Op} {t:TypeId} {d:Tmp} {x:Operand} (h:zBG op=some (t,d,x)):op= .store t (.tmp d) x:=by
 revert h
 cases op<;>simp only [zBG]<;>first|(intro h;cases h;done)|skip
 rename_i t' y z;cases y<;>simp only [zBG]<;>intro h<;>cases h;rfl
theorem zGy {op:Op} {r:TypeId×Tmp×Operand} (h:zBG op=some r):jG op=none:=by
 obtain ⟨t,d,x⟩:=r;rw [zIZ h];rfl
theorem zBl {k:Nat} {gf gf':Nat->List AS} {was was':Nat->Bool} {z:List AS} {j:Nat} (h: ∀ i,initOf ops k j=some i->was i=was' i/\(was i=true->gf i=gf' i)):zW9 ops k gf was z j=zW9 ops k gf' was' z j:=by
 unfold zW9;split
 ·rename_i i hi;obtain ⟨h1,h2⟩:=h i hi;rw [<- h1];split
  ·rename_i hw;rw [h2 hw]
  ·rfl
 ·rfl
theorem zE8 {k:Nat} {gf:Nat->List AS} {was:Nat->Bool} {z:List AS} {j:Nat} (h: ∀ i,initOf ops k j=some i->was i=false):zW9 ops k gf was z j=z:=by
 unfold zW9;split
 ·rename_i i hi;rw [h i hi]
 ·rfl
theorem zMd {k:Nat} {gf:Nat->List AS} {was:Nat->Bool} {z:List AS} {i j:Nat} (h:initOf ops k j=some i) (hw:was i=true):zW9 ops k gf was z j=zAk z 0 (gf i):=by
 unfold zW9;rw [h];simp only [hw]
theorem zNY {T:Tab} {t u:TypeId} {id:Nat} {v:AV} {st:St} {d:Option Tmp} {m cs:List AS} (hv:v.flat=some m) (h1:(Nat.beq m.length (T.sizeOf t)&& !Nat.beq (T.sizeOf t) 0)=true) (h2:m.all AS.storable=true)
 (hh:hget st.hp id=some (.flat u cs)) (h3:Nat.ble (0+m.length) cs.length=true) :
 zCB T t (.s (.ptr id 0 0)) v st d=some (none,none,({st with hp:=zBZ st.hp id (.flat u (zAk cs 0 m))} :St).put d .undef):=by
 simp only [zCB,hv,h1,h2,hh,h3]
theorem zI2 {T:Tab} {t u:TypeId} {id:Nat} {v:AV} {st:St} {d:Option Tmp} {cs:List AS} {r} (h:zCB T t (.s (.ptr id 0 0)) v st d=some r) (hh:hget st.hp id=some (.flat u cs)) :
 ∃ m,v.flat=some m/\(Nat.beq m.length (T.sizeOf t)&& !Nat.beq (T.sizeOf t) 0)=true/\m.all AS.storable=true/\Nat.ble (0+m.length) cs.length=true/\r=(none,none,({st with hp:=zBZ st.hp id (.flat u (zAk cs 0 m))} :St).put d .undef):=by
 unfold zCB at h;cases hv:v.flat with
 | none=>simp only [hv] at h;cases h
 | some m =>
   simp only [hv,hh] at h;cases h1:(Nat.beq m.length (T.sizeOf t)&& !Nat.beq (T.sizeOf t) 0) with
   | false=>simp only [h1] at h;cases h
   | true =>
     cases h2:m.all AS.storable with
     | false=>simp only [h1,h2] at h;cases h
     | true =>
       simp only [h1,h2] at h;cases h3:Nat.ble (0+m.length) cs.length with
       | false=>simp only [h3] at h;cases h
       | true=>simp only [h3] at h;exact ⟨m,rfl,h1,h2,h3,(Option.some.inj h).symm⟩
structure RF (B:Base) (N:Nat) (T:Tab) (ops:Array Oper) (k:Nat) (hp:zAG) (nx:Nat) (gf:Nat->List AS) (listed:Array Bool) (e:Fr) (a:Act) (w:World) (env:Env) (hp':zAG) (M:yN):Prop where
 look:qQ env=e
 gb:GB B N M ⟨env,hp',nx+zBa ops.toList k⟩ a w
 ext:z00 nx hp hp'
 done: ∀ i t,zBN ops k i t->listed.getD i true=true->∃ ti,T.info t=some ti/\hget hp' (nx+zBa ops.toList i)=some (.flat t (zW9 ops k gf (fun x=>listed.getD x true) ti.zero i))
 wait: ∀ i t,zBN ops k i t->listed.getD i true=false->hget hp' (nx+zBa ops.toList i)=none/\M[nx+zBa ops.toList i]? =some dead
 only: ∀ id ob,hget hp' id=some ob->id<nx\/∃ i t,zBN ops k i t/\id=nx+zBa ops.toList i
 first: ∀ i j t,initOf ops k j=some i->zBN ops k j t->listed.getD i true=true->listed.getD j true=true
theorem zNb {o:Oper} {t:TypeId} (h2:jG o.op=some t): ∀ (l:List Oper) (i j:Nat),l[i]? =some o->i<j->zBa l i<zBa l j:=by
 intro l
 induction l with
 | nil=>intro i j h;simp at h
 | cons x l ih =>
   intro i j h h3;obtain ⟨j',rfl⟩: ∃ j',j=j'+1:=⟨j - 1,by omega⟩;cases i with
   | zero=>simp at h;subst h;simp only [zBa,h2];omega
   | succ i =>
     simp only [zBa];have:=ih i j' (by simpa using h) (by omega);omega
theorem zEc {k i j:Nat} {t u:TypeId} (hi:zBN ops k i t) (hj:zBN ops k j u) (h:zBa ops.toList i=zBa ops.toList j):i=j:=by
 obtain ⟨_,o,ho,ha⟩:=hi;obtain ⟨_,o',ho',ha'⟩:=hj;rcases Nat.lt_trichotomy i j with hlt|heq|hgt
 ·have:=zNb ha ops.toList i j (by simpa using ho) hlt;omega
 ·exact heq
 ·have:=zNb ha' ops.toList j i (by simpa using ho') hgt;omega
theorem zCK (env:Env) (hp:zAG) (nx:Nat) (d:Option Tmp) (v:AV): ∃ env',(⟨env,hp,nx⟩:St).put d v=⟨env',hp,nx⟩/\qQ env'=upd (qQ env) d v:=by
 cases d with
 | none=>exact ⟨env,rfl,rfl⟩
 | some t=>exact ⟨(t,v)::env,rfl,by funext x;rw [j8];rfl⟩
theorem zGH {t:Array Value} {j:Nat} {d:Tmp} {vs:Array Value} (hd:j7 ops j=some d) (hv:t.getD d undef= .tuple vs):yielded ops t j=none:=by
 unfold j7 at hd;unfold yielded;split at hd
 ·rename_i o' ho';simp only [ho',Option.bind_some,hd];cases e:t[d]? with
  | none=>rfl
  | some v =>
    simp only [zK,e,qL] at hv;subst hv;rfl
 ·cases hd
theorem zF7 {e:Fr} {o:Oper} {b:Bool} (hw:jM ops e o=some b) {env:Env} (he:qQ env=e) {hp:zAG} {nx:Nat} (h:GA B N ⟨env,hp,nx⟩ a w):Region.wanted o (yielded ops a.tmps)=b:=by
 unfold jM at hw;unfold Region.wanted;split at hw
 ·rename_i hg;cases hw;simp [hg]
 ·rename_i j want hg;simp only [hg];obtain ⟨I,M,hgg⟩:=h.gg;split at hw
  ·rename_i d hd;have hv:=hgg.env d;rw [he] at hv;split at hw
   ·rename_i b' hb';rw [hb'] at hv;cases hw;rw [zEf hd (show a.tmps.getD d undef= .bool b' from hv)];cases b'<;>cases want<;>rfl
   ·rename_i vs hb';rw [hb'] at hv;cases hw;rw [zGH hd hv.1];rfl
   ·cases hw
  ·cases hw
theorem zVv (R:zAS P T) {env:Env} {hp':zAG} {m:Nat} (h:GB B N M ⟨env,hp',m⟩ a w) {o:Oper} (ho:y4 N o=true) {t:TypeId} (hop:o.op= .alloc t) {ti:TI} (hti:T.info t=some ti) {id:Nat} (hdd:M[id]? =some dead) {K:Act->World->Prop}
 (hK: ∀ (a':Act) (w':World) (p:Option Bk),GB B N (M.set id p) ((⟨env,(id,.flat t ti.zero)::hp',m⟩:St).put o.dst (.s (.ptr id 0 0))) a' w'->K a' w'):o.wpIn (FR r) n P a w K Q:=by
 obtain ⟨I,hg⟩:=h.gg;obtain ⟨i,z,hi,hs,hb,hz,hzl⟩:=(R.ty _ _ hti).get
 have hx:(execOp a.eval o).run P w= .ok (.value (.pointer (some ⟨w.heap.size,0,none⟩))) (w.alloc (.cells z.cells t)):=by
  simp [execOp,hop,Instr.alloc,zeroValue,typeInfo,hi,hz,newVar,newRow]
 refine ⟨fun f _=>trivial,?_⟩;rw [Oper.semAt_eq _ _ _ (by intro c e;rw [hop] at e;cases e),hx];exact hK _ _ _ (zCt h.defers h.size ⟨I,hg.revive hdd (zAp h.size ho) (by rw [hzl];exact zEk (R.ty _ _ hti).zok)⟩)
theorem zA1 {l:Array Bool} {i:Nat} :(l.setIfInBounds i true).getD i true=true:=by
 rcases Nat.lt_or_ge i l.size with h'|h'
 ·simp [zK,h']
 ·simp [zK,yX (show (l.setIfInBounds i true).size<=i by simpa using h')]
theorem zG8 {op:Op} {t:TypeId} (h:jG op=some t):op= .alloc t:=by
 cases op<;>simp only [jG] at h<;>first|contradiction|(cases h;rfl)
theorem zIF (R:zAS P T) (hall: ∀ (i:Nat) (o:Oper),ops[i]? =some o->y4 N o=true) {hp:zAG} {nx k fuel:Nat} {gf:Nat->List AS} {ef:Fr} (hF:zVn ops k) (lk:Array Bool)
 (htail: ∀ (a:Act) (w:World) (listed:Array Bool) (env:Env) (hp':zAG) (M:yN),(∀ i<k,listed.getD i true=true)->(∀ i,listed.getD i true=lk.getD i true)->listed.size=lk.size->RF B N T ops k hp nx gf listed ef a w env hp' M->wpAnyIn (FR r) n P .any ops Q fuel listed a w) :
 ∀ (m:Nat) (listed:Array Bool) (e:Fr) (a:Act) (w:World) (env:Env) (hp':zAG) (M:yN),zIP (Yields T ops hp nx gf) ops k ef m listed e->(∀ i,k<=i->listed.getD i true=lk.getD i true)->(∀ i<k,lk.getD i true=true)->listed.size=lk.size->RF B N T ops k hp nx gf listed e a w env hp' M->
   wpAnyIn (FR r) n P .any ops Q (m+fuel) listed a w
 | 0,listed,e,a,w,env,hp',M,h,hl1,hl2,hs,hr=>by
   obtain ⟨h1,rfl⟩:=h;rw [yK];refine htail a w listed env hp' M h1 (fun i=> ?_) hs hr
   by_cases hi:i<k
   ·rw [h1 i hi,hl2 i hi]
   ·exact hl1 i (by omega)
 | m + 1,listed,e,a,w,env,hp',M,h,hl1,hl2,hs,hr=>by
   rw [show m+1+fuel=(m+fuel)+1 by omega];refine ⟨fun h0=>(h.1 h0).elim,fun i hi=> ?_⟩;obtain ⟨hik,o,v,ho,hy,hk⟩:=h.2 i hi;have hun:=(mem_ready.1 hi).1;have hop:=hall i o ho
   have nxt: ∀ (a':Act) (w':World) (env':Env) (hp2:zAG) (β':yN),RF B N T ops k hp nx gf (listed.setIfInBounds i true) (upd e o.dst v) a' w' env' hp2 β'->wpAnyIn (FR r) n P .any ops Q (m+fuel) (listed.setIfInBounds i true) a' w':=fun a' w' env' hp2 β' hr' =>
    zIF R hall hF lk htail m _ _ a' w' env' hp2 β' hk (fun j hj=>by rw [getD_set_ne true (by omega)];exact hl1 j hj) hl2 (by simpa using hs) hr'
   unfold wpOpIn;simp only [ho];unfold Yields at hy;split at hy
   ·rename_i hna;split at hy
    ·-- a calm one
     rename_i hni
     have keep: ∀ {j:Nat} {t:TypeId},zBN ops k j t->(listed.setIfInBounds i true).getD j true=listed.getD j true:=fun {j t} hj=>by
      refine getD_set_ne true (fun e=> ?_);obtain ⟨_,o',ho',ha'⟩:=hj;rw [<- e,ho] at ho';cases ho';rw [hna] at ha';cases ha'
     have keepI: ∀ {i' j:Nat},initOf ops k j=some i'->(listed.setIfInBounds i true).getD i' true=listed.getD i' true:=fun {i' j} hj=>by
      refine getD_set_ne true (fun e=> ?_);obtain ⟨_,o',_,_,_,_,ho',_,hin,_⟩:=zA9 hj;rw [<- e,ho] at ho';cases ho';rw [hni] at hin;cases hin
     have step: ∀ {u:AV} {a':Act} {w':World},GB B N M ((⟨env,hp',nx+zBa ops.toList k⟩:St).put o.dst u) a' w'->∃ env',RF B N T ops k hp nx gf (listed.setIfInBounds i true) (upd e o.dst u) a' w' env' hp' M:=fun {u a' w'} hgb=>by
      obtain ⟨env',e1,e2⟩:=zCK env hp' (nx+zBa ops.toList k) o.dst u;rw [e1] at hgb
      exact ⟨env',by rw [e2,hr.look],hgb,hr.ext,fun j t hj hl=>by
       obtain ⟨ti,q1,q2⟩:=hr.done j t hj (by rw [<- keep hj];exact hl);refine ⟨ti,q1,?_⟩;rw [q2,zBl (gf':=gf) (was':=fun x=>(listed.setIfInBounds i true).getD x true) fun i' hi'=>⟨(keepI hi').symm,fun _=>rfl⟩],fun j t hj hl=>hr.wait j t hj (by rw [<- keep hj];exact hl),hr.only,
       fun i' j t hi' hj hl=>by rw [keep hj];exact hr.first i' j t hi' hj (by rw [<- keepI hi'];exact hl)⟩
     rcases hy with ⟨hw,p,q,hc,hq⟩|⟨hw,rfl⟩
     ·rw [if_pos (zF7 hw hr.look hr.gb.ga)];have hc:=hc hp' hr.ext;rw [<- hr.look,zBU] at hc;refine (zKU R hr.gb hop hc).2 hq fun a' w' hga'=> ?_;obtain ⟨env',h'⟩:=step hga';exact nxt a' w' _ _ _ h'
     ·rw [if_neg (by rw [zF7 hw hr.look hr.gb.ga];simp)];refine ⟨fun f _=>trivial,?_⟩
      have:GB B N M ((⟨env,hp',nx+zBa ops.toList k⟩:St).put o.dst .undef) (a.put o.dst undef) w:=by
       obtain ⟨I,hg⟩:=hr.gb.gg;exact zCt hr.gb.defers hr.gb.size ⟨I,hg.put (zAp hr.gb.size hop) qA.undef⟩
      obtain ⟨env',h'⟩:=step this;exact nxt _ _ _ _ _ h'
    ·-- a store into a thing that was allocated there
     rename_i t d x hin;obtain ⟨hg,rfl,j,oj,ti,hji,hoj,haj,hdj,hed,hti,hfl,c1,c2,c3⟩:=hy;have hjk:j<k:=by omega
     have hat:zBN ops k j t:=⟨hjk,oj,hoj,haj⟩;have hop':=zIZ hin;have hof:initOf ops k j=some i:=hF.initOf i j o oj t t d x hik hjk ho hoj hin haj hdj
     have hjl:listed.getD j true=true:=by
      cases hl:listed.getD j true with
      | true=>rfl
      | false =>
        obtain ⟨_,hdd⟩:=hr.wait j t hat hl;obtain ⟨I,hgg⟩:=hr.gb.gg;have hv:=hgg.env d;have hed':qQ env d= .s (.ptr (nx+zBa ops.toList j) 0 0):=by rw [hr.look];exact hed
        rw [show qQ (⟨env,hp',nx+zBa ops.toList k⟩:St).env d=_ from hed'] at hv;obtain ⟨p,e1,_,e2⟩:=hv;rw [hdd] at e1;cases e1;exact absurd e2 (by simp [dead])
     obtain ⟨ti',q1,q2⟩:=hr.done j t hat hjl;rw [hti] at q1;cases q1;rw [zE8 fun i' hi'=>by rw [hof] at hi';cases hi';exact hun] at q2;rw [if_pos (by simp [Region.wanted,hg])]
     have hest:zCB T t (jW env (.tmp d)) (jW env x) ⟨env,hp',nx+zBa ops.toList k⟩ o.dst=some (none,none,(⟨env,zBZ hp' (nx+zBa ops.toList j) (.flat t (zAk ti.zero 0 (gf i))),nx+zBa ops.toList k⟩:St).put o.dst .undef):=by
      rw [<- zBU,hr.look,hed];exact zNY hfl c1 c2 q2 c3
     refine zRm R hr.gb hop hop' hest fun a' w' hgb=> ?_;obtain ⟨env',e1,e2⟩:=zCK env (zBZ hp' (nx+zBa ops.toList j) (.flat t (zAk ti.zero 0 (gf i)))) (nx+zBa ops.toList k) o.dst .undef;rw [e1] at hgb;have hset_get: ∀ id,hget (zBZ hp' (nx+zBa ops.toList j) (.flat t (zAk ti.zero 0 (gf i)))) id=if id=nx+zBa ops.toList j then some (.flat t (zAk ti.zero 0 (gf i))) else hget hp' id:=fun id=>zAx ⟨_,q2⟩
     have keep: ∀ {j':Nat} {t':TypeId},zBN ops k j' t'->(listed.setIfInBounds i true).getD j' true=listed.getD j' true:=fun {j' t'} hj=>by
      refine getD_set_ne true (fun e=> ?_);obtain ⟨_,o',ho',ha'⟩:=hj;rw [<- e,ho] at ho';cases ho';rw [hna] at ha';cases ha'
     refine nxt a' w' env' _ _ ⟨by rw [e2,hr.look],hgb,fun id hid=> ?_,fun j' u hj' hl=> ?_,fun j' u hj' hl=> ?_,fun id ob hi'=> ?_,fun i' j' u hi' hj' hl=> ?_⟩
     ·rw [hset_get,if_neg (by omega)];exact hr.ext id hid
     ·by_cases hjj:j'=j
      ·subst hjj;obtain ⟨_,o',ho',ha'⟩:=hj';rw [hoj] at ho';cases ho';rw [haj] at ha';cases ha';refine ⟨ti,hti,?_⟩;rw [hset_get,if_pos rfl,zMd hof zA1]
      ·obtain ⟨ti',q3,q4⟩:=hr.done j' u hj' (by rw [<- keep hj'];exact hl);refine ⟨ti',q3,?_⟩;rw [hset_get,if_neg (fun e=>hjj (zEc hj' hat (by omega))),q4];rw [zBl (gf':=gf) (was':=fun x=>(listed.setIfInBounds i true).getD x true) fun i' hi'=>⟨(getD_set_ne true (fun e=> ?_)).symm,fun _=>rfl⟩];subst e;obtain ⟨_,o',oj',t',d',x',r1,r2,r3,r4⟩:=zA9 hi';obtain ⟨hjk',o2,ho2,ha2⟩:=hj';rw [ho] at r1;cases r1;rw [hin] at r3;cases r3
       rw [ho2] at r2;cases r2;exact hjj (hF.inj j' j _ _ _ _ _ hjk' hjk ho2 hoj ha2 haj r4 hdj)
     ·rw [keep hj'] at hl;obtain ⟨q3,q4⟩:=hr.wait j' u hj' hl;refine ⟨?_,q4⟩;rw [hset_get];split
      ·rename_i e;have:=zEc hj' hat (by omega);subst this;rw [hjl] at hl;cases hl
      ·exact q3
     ·rw [hset_get] at hi';split at hi'
      ·rename_i e;exact .inr ⟨j,t,hat,e⟩
      ·exact hr.only id ob hi'
     ·rw [keep hj']
      by_cases hii:i'=i
      ·subst hii;obtain ⟨_,o',oj',t',d',x',r1,r2,r3,r4⟩:=zA9 hi';obtain ⟨hjk',o2,ho2,ha2⟩:=hj';rw [ho] at r1;cases r1;rw [hin] at r3;cases r3;rw [ho2] at r2;cases r2;rw [hF.inj j' j _ _ _ _ _ hjk' hjk ho2 hoj ha2 haj r4 hdj];exact hjl
      ·rw [getD_set_ne true (Ne.symm hii)] at hl;exact hr.first i' j' u hi' hj' hl
   ·-- an allocation
    rename_i t ha;obtain ⟨hg,hti,rfl⟩:=hy;obtain ⟨ti,hti⟩:=zBP.1 hti;have hat:zBN ops k i t:=⟨hik,o,ho,ha⟩;obtain ⟨_,hdd⟩:=hr.wait i t hat hun
    have keepI: ∀ {i' j:Nat},initOf ops k j=some i'->(listed.setIfInBounds i true).getD i' true=listed.getD i' true:=fun {i' j} hj=>by
     refine getD_set_ne true (fun e=> ?_);obtain ⟨_,o',_,_,_,_,ho',_,hin,_⟩:=zA9 hj;rw [<- e,ho] at ho';cases ho';rw [zGy hin] at ha;cases ha
    rw [if_pos (by simp [Region.wanted,hg])];refine zVv R hr.gb hop (zG8 ha) hti hdd fun a' w' p hgb=> ?_;obtain ⟨env',e1,e2⟩:=zCK env ((nx+zBa ops.toList i,.flat t ti.zero)::hp') (nx+zBa ops.toList k) o.dst (.s (.ptr (nx+zBa ops.toList i) 0 0));rw [e1] at hgb;refine nxt a' w' env' _ _ ⟨by rw [e2,hr.look],hgb,fun id hid=> ?_,fun j u hj hl=> ?_,fun j u hj hl=> ?_,fun id ob hi'=> ?_,fun i' j u hi' hj hl=> ?_⟩
    ·rw [yB,if_neg (by omega)];exact hr.ext id hid
    ·rw [yB]
     by_cases hji:i=j
     ·subst hji;obtain ⟨_,o',ho',ha'⟩:=hj;rw [ho] at ho';cases ho';rw [ha] at ha';cases ha';refine ⟨ti,hti,?_⟩;rw [if_pos rfl,zE8 fun i' hi'=> ?_];rw [keepI hi'];cases hl':listed.getD i' true with
      | false=>rfl
      | true=>rw [hr.first i' i _ hi' hat hl'] at hun;cases hun
     ·rw [getD_set_ne true hji] at hl;rw [if_neg (fun e=>hji (zEc hat hj (by omega)))];obtain ⟨ti',q1,q2⟩:=hr.done j u hj hl;refine ⟨ti',q1,?_⟩;rw [q2,zBl (gf':=gf) (was':=fun x=>(listed.setIfInBounds i true).getD x true) fun i' hi'=>⟨(keepI hi').symm,fun _=>rfl⟩]
    ·by_cases hji:i=j
     ·subst hji;rw [zA1] at hl;cases hl
     ·rw [getD_set_ne true hji] at hl;have hne:nx+zBa ops.toList i≠nx+zBa ops.toList j:=fun e=>hji (zEc hat hj (by omega));obtain ⟨q1,q2⟩:=hr.wait j u hj hl;exact ⟨by rw [yB,if_neg hne];exact q1,by rw [qP hne];exact q2⟩
    ·rw [yB] at hi';split at hi'
     ·rename_i e;exact .inr ⟨i,t,hat,e.symm⟩
     ·exact hr.only id ob hi'
    ·rw [keepI hi'] at hl;have:=hr.first i' j u hi' hj hl
     by_cases hji:i=j
     ·subst hji;exact zA1
     ·rw [getD_set_ne true hji];exact this
theorem zFg (R:zAS P T) {draw:Bool} (hall: ∀ (i:Nat) (o:Oper),ops[i]? =some o->y4 N o=true): ∀ (l:List Oper) (t:Nat) (listed:Array Bool) {st:St} {a:Act} {w:World} {K:St->Prop},(∀ j:Nat,l[j]? =ops[t+j]?)->
 zFP ops l.length t listed=true->GA B N st a w->zBj T draw ops l st K->(∀ st' a' w',K st'->GA B N st' a' w'->Q .normal a' w')->wpAnyIn (FR r) n P .any ops Q l.length listed a w
 | [],t,listed,st,a,w,K,_,hB,h,hk,hQ=>⟨by simpa [zFP] using hB,hQ _ _ _ hk h⟩
 | o :: l, t,listed,st,a,w,K,hl,hB,h,hk,hQ=>by
   have h0:ops[t]? =some o:=by simpa using (hl 0).symm
   have ho:=hall t o h0;have hl': ∀ j:Nat,l[j]? =ops[t+1+j]? :=fun j=>by have:=hl (j+1);simpa [zAP,Nat.add_comm 1 j] using this
   simp only [zZ,zFP,zA,beq_iff_eq] at hB;obtain ⟨hr,hB'⟩:=hB;refine ⟨fun h=>(by rw [h] at hr;cases hr),fun i hi=> ?_⟩;rw [hr] at hi;obtain rfl:=zD.1 hi
   have run: ∀ {st:St},GA B N st a w->aop T draw o st (fun st'=>zBj T draw ops l st' K)->o.wpIn (FR r) n P a w (wpAnyIn (FR r) n P .any ops Q l.length (listed.setIfInBounds i true)) Q:=fun h hk =>
    zX9 R h ho hk fun st' a' w' hk' h'=>zFg R hall l (i+1) _ hl' hB' h' hk' hQ
   have skip: ∀ {st:St},GA B N st a w->zBj T draw ops l (st.put o.dst .undef) K->wpAnyIn (FR r) n P .any ops Q l.length (listed.setIfInBounds i true) (a.put o.dst undef) w:=fun h hk =>
    zFg R hall l (i+1) _ hl' hB' (zFQ h ho) hk hQ
   unfold wpOpIn;simp only [h0];simp only [zBj,St.force_eq] at hk;cases hg:o.guard with
   | none =>
     simp only [hg] at hk;rw [if_pos (by simp [Region.wanted,hg])];exact run h hk
   | some jw =>
     obtain ⟨j,want⟩:=jw;simp only [hg] at hk;obtain ⟨I,M,hgg⟩:=h.gg;split at hk
     ·rename_i b hb;obtain ⟨d,hd,hd2⟩:=zAT (ops:=ops) (env:=st.env) (j:=j) (by rw [hb];simp);rw [hd2] at hb;have hv:=hgg.env d;rw [hb] at hv;have hy:=zEf (ops:=ops) hd (show a.tmps.getD d undef= .bool b from hv);rw [hd] at hk;cases b with
      | true =>
        cases want with
        | true =>
          rw [if_pos (by simp [Region.wanted,hg,hy])];exact run (zCH h hb) hk
        | false =>
          rw [if_neg (by simp [Region.wanted,hg,hy])];exact ⟨fun f _=>trivial,skip (zCH h hb) hk⟩
      | false =>
        cases want with
        | true =>
          rw [if_neg (by simp [Region.wanted,hg,hy])];exact ⟨fun f _=>trivial,skip (zCH h hb) hk⟩
        | false =>
          rw [if_pos (by simp [Region.wanted,hg,hy])];exact run (zCH h hb) hk
     ·rename_i vs hb;obtain ⟨d,hd,hd2⟩:=zAT (ops:=ops) (env:=st.env) (j:=j) (by rw [hb];simp);rw [hd2] at hb;have hv:=hgg.env d;rw [hb] at hv;rw [if_neg (by simp [Region.wanted,hg,zGH hd hv.1])];exact ⟨fun f _=>trivial,skip h hk⟩
     ·exact hk.elim
theorem zHK {t:TypeId} {m:Nat} {ps:List (Nat×AV)} {d:Option Tmp} (h:zCb T t m ps=none):zCd T t m ps st d=none:=by
 unfold zCb at h;unfold zCd;split at h
 ·split at h
  ·split at h
   ·split at h
    ·cases h
    ·rfl
   ·rfl
  ·rfl
 ·rfl
theorem zF4 {o:Oper} (hc:jN o.op=true) (h:zAJ T o st=none):zLT T o st=none:=by
 unfold zAJ at h;split at h
 ·cases h
 ·rename_i hn;unfold zLT;split
  ·rfl
  rename_i hv;unfold zEq;obtain ⟨dst,op,type,pos,after,guard⟩:=o;cases op<;>simp only [jN] at hc<;>first|contradiction|rfl|skip
  case buildSlice t m ps=>exact zHK hn
  case call c =>
   obtain ⟨callee,args,ts⟩:=c;cases callee with
   | builtin b=>cases b<;>first|contradiction|rfl
   | value v=>cases hv
   | _=>rfl
end
end Go.Vm
namespace Go.Vm
open Go.RowKit
theorem zDQ {o:Oper} {x y:Operand} {d:Tmp} (h:zJQ o=some (x,y,d)):o.guard=none/\o.dst=some d/\∃ ts,o.op= .call ⟨.builtin .append,#[x,y],ts⟩:=by
 unfold zJQ at h;split at h
 ·rename_i c d' hop hg hd;split at h
  ·rename_i x' y' hc ha;cases h;obtain ⟨callee,args,ts⟩:=c;simp only at hc ha;subst hc;have:args= #[x,y]:=by rw [<- Array.toArray_toList (xs:=args),ha]
   subst this;exact ⟨hg,hd,ts,hop⟩
  ·cases h
 ·cases h
theorem zNy {T:Tab} {ts:List TypeId} {xv yv:AV} {env:Env} {hp:zAG} {nx:Nat} {d:Option Tmp} {res} (hne: ∀ e,xv≠.s (.emp e)) (h:zBu T ts xv yv ⟨env,hp,nx⟩ d=some res) :
 ∃ r s n n' row q,xv= .s (.own r s n)/\(∃ ob,hget hp r=some ob)/\res=(none,q,(⟨env.mapAS (kill r),zBZ (hp.mapAS (kill r)) r row,nx⟩:St).put d (.s (.own r 0 n')))/\∀ env',zBu T ts xv yv ⟨env',hp,nx⟩ d=some (none,q,(⟨env'.mapAS (kill r),zBZ (hp.mapAS (kill r)) r row,nx⟩:St).put d (.s (.own r 0 n'))):=by
 have hun: ∀ st,zBu T ts xv yv st d=zUI T ts xv yv st d:=fun st=>by
  unfold zBu;split
  ·rename_i e;exact absurd rfl (hne e)
  ·rfl
 simp only [hun] at h ⊢;unfold zUI at h ⊢;dsimp only at h ⊢;split at h
 case h_2=>cases h
 rename_i t t' id s n e' ys hys;split at h
 case h_2=>cases h
 rename_i u' e u xs hb hd hid;split at h
 case h_2=>cases h
 rename_i he ui hdec hbu hui;split at h
 case h_2=>cases h
 rename_i c1 c2 c3;refine ⟨id,s,n,n+ys.length,.row e u ((xs.drop s).take n++(he▸ys)),some (((n:Int)+ys.length)*ui.bytes<=140737488355328),rfl,⟨_,hid⟩,(Option.some.inj h).symm,fun env'=> ?_⟩;simp only [hys,hb,hd,hid,hdec,hbu,hui,c1,c2,c3]
section
variable {P:Program} {B:Base} {w:World} {I:Sig} {M:yN} {st:St} {T:Tab} {N:Nat} {a:Act} {r:Option Nat} {n:Nat} {ops:Array Oper} {Q:Exit->Act->World->Prop}
theorem zOt {o:Oper} {t:Tmp} (h:Operand.tmp t∈o.op.operands):t∈o.looksAt ops:=by
 simp only [Oper.looksAt,zY,List.mem_filterMap];exact .inl ⟨.tmp t,by simpa using h,rfl⟩
theorem zQz {o:Oper} {e:Fr} {d:Option Tmp} {u:AV} (h: ∀ t,d=some t->t∉o.looksAt ops): ∀ x∈o.op.operands,zCk (upd e d u) x=zCk e x:=fun x hx=>zHq fun t ht hxt=>h t ht (by subst hxt;exact zOt hx)
theorem upd_same {e:Fr} {d:Option Tmp} {u:AV} {t:Tmp} (h: ∀ t',d=some t'->t'≠t):upd e d u t=e t:=by
 cases d with
 | none=>rfl
 | some t'=>simp only [upd];rw [if_neg (h t' rfl)]
theorem zV8 (R:zAS P T) {o:Oper} (hc:jN o.op=true) (ho:y4 N o=true) {env:Env} {hp:zAG} {nx:Nat} (h:GA B N ⟨env,hp,nx⟩ a w) {K:St->Prop} (hk:zBj T true ops [o] ⟨env,hp,nx⟩ K) :
 ∃ v env' a' w',qQ env'=upd (qQ env) o.dst v/\K ⟨env',hp,nx⟩/\GA B N ⟨env',hp,nx⟩ a' w'/\
   ((jM ops (qQ env) o=some true/\∃ p q,zAh T o.op (zCk (qQ env)) hp=some (p,q,v)/\Opt q)\/(jM ops (qQ env) o=some false/\v= .undef)):=by
 have run: ∀ {env1:Env},qQ env1=qQ env->jM ops (qQ env) o=some true->aop T true o ⟨env1,hp,nx⟩ K->
  ∃ v env' a' w',qQ env'=upd (qQ env) o.dst v/\K ⟨env',hp,nx⟩/\GA B N ⟨env',hp,nx⟩ a' w'/\
  ((jM ops (qQ env) o=some true/\∃ p q,zAh T o.op (zCk (qQ env)) hp=some (p,q,v)/\Opt q)\/(jM ops (qQ env) o=some false/\v= .undef)):=by
  intro env1 hE hw hk;have hEv:jW env1=zCk (qQ env):=by rw [<- zBU,hE]
  have h1:GA B N ⟨env1,hp,nx⟩ a w:=by
   obtain ⟨I,M,hg⟩:=h.gg;exact ⟨h.defers,h.size,I,M,hg.congr hE.symm fun _=>rfl⟩
  have core: ∀ {p q:Option Prop} {st':St},zCR T true o ⟨env1,hp,nx⟩=some (p,q,st')->Opt p/\(Opt q->K st'->
   ∃ v env' a' w',qQ env'=upd (qQ env) o.dst v/\K ⟨env',hp,nx⟩/\GA B N ⟨env',hp,nx⟩ a' w'/\
   ((jM ops (qQ env) o=some true/\∃ p q,zAh T o.op (zCk (qQ env)) hp=some (p,q,v)/\Opt q)\/(jM ops (qQ env) o=some false/\v= .undef))):=by
   intro p q st' hs;unfold zCR at hs;simp only at hs;split at hs
   ·rename_i res hcs;cases Option.some.inj hs;unfold zAJ at hcs;split at hcs
    ·rename_i p' q' v hv;cases hcs;obtain ⟨g1,g2⟩:=zKz (r:=none) (n:=0) R h1 ho hv;refine ⟨g1,fun hq hk'=> ?_⟩;obtain ⟨a',w',hga'⟩:=zC9 (g2 hq (K:=fun a' w'=>GA B N ((⟨env1,hp,nx⟩:St).put o.dst v) a' w') (Q:=fun _ _ _=>False) fun _ _ h=>h);obtain ⟨env',e1,e2⟩:=zCK env1 hp nx o.dst v;rw [e1] at hk' hga';refine ⟨v,env',a',w',by rw [e2,hE],hk',hga',.inl ⟨hw,p,q,?_,hq⟩⟩;rw [<- hEv];exact hv
    ·cases hcs
   ·rename_i hcs;rw [zF4 hc hcs] at hs;cases hs
  simp only [aop] at hk;unfold zRM at hk;simp only [St.force_eq] at hk;split at hk
  ·rename_i st' hs;exact (core hs).2 trivial hk
  ·rename_i p st' hs;obtain ⟨h1,h2⟩:=core hs;exact h2 trivial (hk.out h1)
  ·rename_i q st' hs;obtain ⟨h1,h2⟩:=core hs;obtain ⟨k1,k2⟩:=hk.out;exact h2 k1 k2
  ·rename_i p q st' hs;obtain ⟨h1,h2⟩:=core hs;obtain ⟨k1,k2⟩:=(hk.out h1).out;exact h2 k1 k2
  ·exact hk.elim
 have skip: ∀ {env1:Env},qQ env1=qQ env->jM ops (qQ env) o=some false->K ((⟨env1,hp,nx⟩:St).put o.dst .undef)->
  ∃ v env' a' w',qQ env'=upd (qQ env) o.dst v/\K ⟨env',hp,nx⟩/\GA B N ⟨env',hp,nx⟩ a' w'/\
  ((jM ops (qQ env) o=some true/\∃ p q,zAh T o.op (zCk (qQ env)) hp=some (p,q,v)/\Opt q)\/(jM ops (qQ env) o=some false/\v= .undef)):=by
  intro env1 hE hw hk
  have h1:GA B N ⟨env1,hp,nx⟩ a w:=by
   obtain ⟨I,M,hg⟩:=h.gg;exact ⟨h.defers,h.size,I,M,hg.congr hE.symm fun _=>rfl⟩
  obtain ⟨env',e1,e2⟩:=zCK env1 hp nx o.dst .undef;have hga:=zFQ h1 ho;rw [e1] at hk hga;exact ⟨.undef,env',_,w,by rw [e2,hE],hk,hga,.inr ⟨hw,rfl⟩⟩
 simp only [zBj,St.force_eq] at hk;cases hg:o.guard with
 | none =>
   simp only [hg] at hk;exact run rfl (by simp [jM,hg]) hk
 | some jw =>
   obtain ⟨j,want⟩:=jw;simp only [hg] at hk;split at hk
   ·rename_i b hb;obtain ⟨d,hd,hd2⟩:=zAT (ops:=ops) (env:=env) (j:=j) (by rw [hb];simp);rw [hd2] at hb;rw [hd] at hk;have hw:jM ops (qQ env) o=some (b==want):=by simp [jM,hg,hd,hb]
    have hE: ∀ b',qQ env d= .s (.bool b')->qQ ((d,.s (.bool b'))::env)=qQ env:=fun b' hb'=>by
     funext x;rw [j8];split
     ·rename_i e;subst e;exact hb'.symm
     ·rfl
    cases b with
    | true =>
      cases want with
      | true=>exact run (hE _ hb) hw hk
      | false=>exact skip (hE _ hb) hw hk
    | false =>
      cases want with
      | true=>exact skip (hE _ hb) hw hk
      | false=>exact run (hE _ hb) hw hk
   ·rename_i vs hb;obtain ⟨d,hd,hd2⟩:=zAT (ops:=ops) (env:=env) (j:=j) (by rw [hb];simp);rw [hd2] at hb;exact skip rfl (by simp [jM,hg,hd,hb]) hk
   ·exact hk.elim
theorem zHd {k:Nat} {listed:Array Bool} (dn: ∀ j i,j<k->listed.getD j true=true->waits ops j i=true->listed.getD i true=true): ∀ (i:Nat) (acc:List Nat),zFF ops i acc=true->(∀ j∈acc,j<k/\listed.getD j true=true)->i<=k->∀ i'<i,listed.getD i' true=true
 | 0,_,_,_,_,i',h=>absurd h (by omega)
 | i + 1,acc,hn,ha,hik,i',hi'=>by
   simp only [zFF] at hn;split at hn
   case h_2=>cases hn
   rename_i hany;obtain ⟨j,hj,hw⟩:=z4W.1 hany;have hi:listed.getD i true=true:=dn j i (ha j hj).1 (ha j hj).2 hw
   by_cases e:i'=i
   ·subst e;exact hi
   ·exact zHd dn i (i::acc) hn (fun j hj=>by
     rcases zP.1 hj with rfl|hj
     ·exact ⟨by omega,hi⟩
     ·exact ha j hj) (by omega) i' (by omega)
theorem zAy {l:Array Bool} {i:Nat} (h:l.getD i false=true):l.getD i true=true:=by
 rcases Nat.lt_or_ge i l.size with h'|h'
 ·simpa [zK,h'] using h
 ·simp [zK,yX h'] at h
theorem zNi {i j:Nat} {listed:Array Bool} (h:i∈Region.ready .any ops listed) (hw:waits ops i j=true):listed.getD j true=true:=by
 obtain ⟨_,o,ho,hall⟩:=mem_ready.1 h;unfold waits at hw;rw [ho] at hw;obtain ⟨x,hx,hb⟩:=Array.any_eq_true'.1 hw;simp only [zA,beq_iff_eq] at hb;have:=hall x hx hb.1;rw [hb.2] at this;exact zAy this
end
end Go.Vm
namespace Go.Vm
open Go.RowKit
section
variable {P:Program} {B:Base} {w:World} {I:Sig} {M:yN} {st:St} {T:Tab} {N:Nat} {a:Act} {r:Option Nat} {n:Nat} {ops:Array Oper} {Q:Exit->Act->World->Prop}
theorem zMg: ∀ (l:List Nat) (K:List Nat->Prop),zPi l K=K l
 | [],_=>rfl
 | a::r,K=>by rw [zPi,zII,zMg r]
theorem zGf: ∀ (l:List (Nat×List Nat)) (K:List (Nat×List Nat)->Prop),zIM l K=K l
 | [],_=>rfl
 | (i,p)::r,K=>by rw [zIM,zII,zMg,zGf r]
theorem zHp: ∀ (l:List Oper) (i m:Nat) (L:List (Nat×Nat×Bool)) {K:List (Nat×Nat×Bool)->Nat->Prop},zQ2 l i m L K->∃ L m,K L m
 | [],_,_,_,_,h=>⟨_,_,h⟩
 | o::l,i,m,L,K,h=>by
   simp only [zQ2,zII] at h;split at h<;>exact zHp l _ _ _ h
theorem zVe {K:St->Prop} (h:zZt T ops st K): ∃ cl d,okG ops cl=true/\zMb T ops cl st fun st1=>zBj T d ops (ops.toList.drop cl.length) st1 K:=by
 unfold zZt at h;rw [zII] at h;obtain ⟨L,m,h⟩:=zHp _ _ _ _ h;rw [zGf] at h;exact ⟨_,true,h.out⟩
theorem zUJ {K:St->Prop} (h:zZz T ops st K): ∃ cl d,okG ops cl=true/\zMb T ops cl st fun st1=>zBj T d ops (ops.toList.drop cl.length) st1 K:=by
 unfold zZz at h;rw [zII] at h;obtain ⟨L,m,h⟩:=zHp _ _ _ _ h;rw [zGf] at h;exact ⟨_,false,h.out⟩
def Apart (ops:Array Oper) (a b:Oper):Prop:=(∀ t,a.dst=some t->t∉b.looksAt ops/\b.dst≠some t)/\∀ t,b.dst=some t->t∉a.looksAt ops
def zVx (ops:Array Oper) (p i:Nat):Prop:= ∀ a b,ops[p]? =some a->ops[i]? =some b->∀ t,b.dst=some t->t∉a.looksAt ops/\a.dst≠some t
abbrev GL:=List (Nat×List Nat)
structure QJ (ops:Array Oper) (l1:GL) (x:Nat×List Nat):Prop where
 kind: ∃ o,ops[x.1]? =some o/\(jN o.op=true\/zRL o=true)
 ord: ∀ p∈l1,zDN ops x.1 p.1=true\/∃ a o,ops[p.1]? =some a/\ops[x.1]? =some o/\jN a.op=true/\Apart ops a o
 pend:zEV ops x.1=false->∀ p∈l1,zEV ops p.1=true->zDN ops x.1 p.1=true\/(p.1∈x.2/\∀ a,ops[p.1]? =some a->∀ t,a.dst=some t->t∉a.looksAt ops)
 pair:zEV ops x.1=false->l1.Pairwise fun p i=>p.1∈x.2->zVx ops p.1 i.1
theorem QJ.sub {l1 l2:GL} {x:Nat×List Nat} (h:QJ ops l1 x) (s:l2.Sublist l1):QJ ops l2 x :=
 ⟨h.kind,fun p hp=>h.ord p (s.subset hp),fun hc p hp=>h.pend hc p (s.subset hp),fun hc=>(h.pair hc).sublist s⟩
theorem zN0 {p i:Nat} (h:zSl ops p i=true): ∃ a o,ops[p]? =some a/\ops[i]? =some o/\Apart ops a o:=by
 unfold zSl at h;split at h
 ·rename_i a b ha hb;rw [zA] at h;refine ⟨a,b,ha,hb,fun t ht=> ?_,fun t ht=> ?_⟩
  ·have h1:=h.1;simp only [ht,zA,y8,beq_eq_false_iff_ne] at h1;exact ⟨by simpa using h1.1,h1.2⟩
  ·have h2:=h.2;simp only [ht,y8] at h2;simpa using h2
 ·cases h
theorem zOa {p i:Nat} (h:zUR ops p i=true):zVx ops p i:=by
 intro a b ha hb t ht;unfold zUR at h;simp only [ha,hb,ht,zA,y8,beq_eq_false_iff_ne] at h;exact ⟨by simpa using h.1,h.2⟩
theorem zIe {pd:List Nat} : ∀ {pre:List Nat},zPn ops pd pre=true->pre.Pairwise fun i p=>p∈pd->zVx ops p i
 | [],_=> .nil
 | i::r,h=>by
   unfold zPn at h;rw [zA,zO] at h;refine .cons (fun p hp hpd=> ?_) (zIe h.2);have:=h.1 p hp;rw [yO,y8] at this;rcases this with e|e
   ·rw [List.contains_iff_mem.2 hpd] at e;cases e
   ·exact zOa e
theorem zWS {l1:GL} {j:Nat} {pd:List Nat} (h:okJ ops (l1.map Prod.fst).reverse j pd=true):QJ ops l1 (j,pd)/\∀ o,ops[j]? =some o->∀ e∈o.after,Region.binds .any e=true->∃ y∈l1,y.1=e.on:=by
 unfold okJ at h;split at h
 case h_2=>cases h
 rename_i o ho;simp only [zA,zO,yO] at h;obtain ⟨h1,h2,h3,h4⟩:=h;have mem: ∀ {p:Nat×List Nat},p∈l1->p.1∈(l1.map Prod.fst).reverse:=fun hp=>List.mem_reverse.2 (zS.2 ⟨_,hp,rfl⟩);have hcalm:zEV ops j=jN o.op:=by unfold zEV;rw [ho]
 refine ⟨⟨⟨o,ho,h1⟩,fun p hp=> ?_,fun hc p hp hpc=> ?_,fun hc=> ?_⟩,fun o' ho' e he hb=> ?_⟩
 ·rcases h3 p.1 (mem hp) with e|⟨e1,e2⟩
  ·exact .inl e
  ·obtain ⟨a,o',ha,ho',hap⟩:=zN0 e2;refine .inr ⟨a,o',ha,ho',?_,hap⟩;unfold zEV at e1;rw [ha] at e1;exact e1
 ·rw [hcalm] at hc;rcases h4 with e|⟨e1,_⟩
  ·rw [hc] at e;cases e
  ·rcases e1 p.1 (mem hp) with (e|e)|⟨e,f⟩
   ·rw [hpc] at e;cases e
   ·exact .inl e
   ·refine .inr ⟨List.contains_iff_mem.1 e,fun a ha t ht=> ?_⟩;unfold z0Y at f;simp only [ha,ht,y8] at f;simpa using f
 ·rw [hcalm] at hc;rcases h4 with e|⟨_,e2⟩
  ·rw [hc] at e;cases e
  ·have:=List.pairwise_reverse.1 (zIe e2);exact List.pairwise_map.1 this
 ·rw [ho] at ho';cases ho';rcases h2 e (by simpa using he) with k|k
  ·rw [hb] at k;cases k
  ·have:=List.mem_reverse.1 (List.contains_iff_mem.1 k);obtain ⟨y,hy,e⟩:=zS.1 this;exact ⟨y,hy,e⟩
theorem zPH: ∀ {cl l0:GL},okW ops (l0.map Prod.fst).reverse cl=true->(cl.map Prod.fst).Nodup/\(∀ x∈cl,∀ y∈l0,y.1≠x.1)/\∀ l1 x l2,cl=l1++x::l2->QJ ops (l0++l1) x/\∀ o,ops[x.1]? =some o->∀ e∈o.after,Region.binds .any e=true->∃ y∈l0++l1,y.1=e.on
 | [],_,_=>⟨qW,fun x h=>(by cases h),fun l1 x l2 e=>by cases l1<;>cases e⟩
 | (j, pd)::r,l0,h=>by
   unfold okW at h;simp only [zA,y8] at h;obtain ⟨h1,h2,h3⟩:=h;obtain ⟨k1,k2,k3⟩:=zPH (cl:=r) (l0:=l0++[(j,pd)]) (by simpa using h3)
   have hj: ∀ y∈l0,y.1≠j:=fun y hy e=>by
    have:(l0.map Prod.fst).reverse.contains j=true:=List.contains_iff_mem.2 (List.mem_reverse.2 (zS.2 ⟨y,hy,e⟩));rw [h1] at this;cases this
   refine ⟨yQ.2 ⟨fun hm=> ?_,k1⟩,fun x hx y hy=> ?_,fun l1 x l2 e=> ?_⟩
   ·obtain ⟨x,hx,e⟩:=zS.1 hm;exact k2 x hx (j,pd) (by simp) e.symm
   ·rcases zP.1 hx with e|e
    ·rw [e];exact hj y hy
    ·exact k2 x e y (by simp [hy])
   ·cases l1 with
    | nil =>
      cases e;rw [yW];exact zWS h2
    | cons z l1 =>
      cases e;have:=k3 l1 x l2 rfl;rwa [zHR,List.singleton_append] at this
def YC (T:Tab) (ops:Array Oper) (hp:zAG) (o:Oper) (v:AV) (e:Fr):Prop :=
 (jM ops e o=some true/\∃ p q,zAh T o.op (zCk e) hp=some (p,q,v)/\Opt q)\/(jM ops e o=some false/\v= .undef)
theorem zKs {o:Oper} {e e':Fr} (h: ∀ t∈o.looksAt ops,e t=e' t):jM ops e o=jM ops e' o:=by
 unfold jM;cases hg:o.guard with
 | none=>rfl
 | some jw =>
   obtain ⟨j,want⟩:=jw;simp only;cases hs:j7 ops j with
   | none=>rfl
   | some s =>
     simp only
     rw [h s (by
      simp only [Oper.looksAt,hg,zY];right;unfold j7 at hs;cases ho:ops[j]? with
      | none=>simp [ho] at hs
      | some o'=>simp only [ho] at hs;simp [hs])]
theorem zNz {o:Oper} {e e':Fr} (h: ∀ t∈o.looksAt ops,e t=e' t): ∀ x∈o.op.operands,zCk e x=zCk e' x:=fun x hx=>by
 cases x with
 | tmp t=>exact h t (zOt hx)
 | _=>rfl
theorem YC.congr {hp:zAG} {o:Oper} {v:AV} {e e':Fr} (h: ∀ t∈o.looksAt ops,e t=e' t) (k:YC T ops hp o v e):YC T ops hp o v e':=by
 unfold YC at *;rwa [<- zKs h,<- zDe (zNz h)]
structure Ef where
 f:AV->AV
 v:AV
 hp:zAG
 q:Option Prop
def after (E:Ef) (o:Oper) (e:Fr):Fr:=upd (fun t=>E.f (e t)) o.dst E.v
def z2A (T:Tab) (o:Oper) (hp:zAG) (nx:Nat) (E:Ef) (e:Fr):Prop:=o.guard=none/\Opt E.q/\
 ∀ env,(∀ x∈o.op.operands,jW env x=zCk e x)->∃ env',zEq T o ⟨env,hp,nx⟩=some (none,E.q,⟨env',E.hp,nx⟩)/\qQ env'=after E o (qQ env)
structure zUv (T:Tab) (ops:Array Oper) (hp:zAG) (E:Ef) (o:Oper) (e:Fr) (op:Oper):Prop where
 same: ∀ v,YC T ops hp op v e->YC T ops E.hp op v (after E o e)
 slot: ∀ d,op.dst=some d->after E o e d=e d
def zVB (T:Tab) (ops:Array Oper) (nx:Nat) (Kf:Fr->zAG->Prop):GL->Fr->zAG->Prop
 | [],e,hp=>Kf e hp
 | (j,pd)::l,e,hp=> ∃ o,ops[j]? =some o/\((jN o.op=true/\∃ v,YC T ops hp o v e/\zVB T ops nx Kf l (upd e o.dst v) hp)\/
     (jN o.op=false/\∃ E,z2A T o hp nx E e/\(∀ p∈pd,∀ op,ops[p]? =some op->zUv T ops hp E o e op)/\zVB T ops nx Kf l (after E o e) E.hp))
theorem zIz {e:Fr} {d:Option Tmp} {v:AV} {t:Tmp} (h:d≠some t):upd e d v t=e t:=upd_same fun t' hd e=>h (by rw [hd,e])
theorem zNR {nx:Nat} {Kf:Fr->zAG->Prop} {j:Nat} {pd:List Nat} {o:Oper} (ho:ops[j]? =some o) (hc:jN o.op=true) {l2:GL} {hp:zAG} : ∀ (l1:GL) {e:Fr},(∀ x∈l1,∃ a,ops[x.1]? =some a/\jN a.op=true/\Apart ops a o)->
 zVB T ops nx Kf (l1++(j,pd)::l2) e hp->∃ v,YC T ops hp o v e/\zVB T ops nx Kf (l1++l2) (upd e o.dst v) hp
 | [],e,_,h=>by
   obtain ⟨o',ho',h⟩:=h;rw [ho] at ho';cases ho';rcases h with ⟨_,h⟩|⟨h,_⟩
   ·exact h
   ·rw [hc] at h;cases h
 | (i,pi)::l1,e,hl,h=>by
   obtain ⟨a,ha,ac,ap⟩:=hl (i,pi) (zQ ..);obtain ⟨a',ha',h⟩:=h;rw [ha] at ha';cases ha';rcases h with ⟨_,u,hu,h⟩|⟨h,_⟩
   ·obtain ⟨v,hv,k⟩:=zNR ho hc l1 (fun x hx=>hl x (zM _ hx)) h;refine ⟨v,hv.congr fun t ht=>zIz fun q=>(ap.1 t q).1 ht,a,ha,.inl ⟨ac,u,hu.congr fun t ht=>(zIz fun q=>ap.2 t q ht).symm,?_⟩⟩;rw [zKP (fun t q=>(ap.1 t q).2)] at k;exact k
   ·rw [ac] at h;cases h
theorem zPk {nx:Nat} {Kf:Fr->zAG->Prop} {j:Nat} {pd:List Nat} {o:Oper} (ho:ops[j]? =some o) (hc:jN o.op=false) {l2:GL} {hp:zAG} : ∀ (l1:GL) {e:Fr},(∀ x∈l1,∃ a,ops[x.1]? =some a/\jN a.op=true/\Apart ops a o)->
 (∀ x∈l1,x.1∈pd/\∀ a,ops[x.1]? =some a->∀ t,a.dst=some t->t∉a.looksAt ops)->l1.Pairwise (fun p i=>p.1∈pd->zVx ops p.1 i.1)->
 zVB T ops nx Kf (l1++(j,pd)::l2) e hp->∃ E,z2A T o hp nx E e/\(∃ ee:Fr,(∀ t,(∀ x∈l1,∀ a,ops[x.1]? =some a->a.dst≠some t)->ee t=e t)/\∀ p∈pd,∀ op,ops[p]? =some op->zUv T ops hp E o ee op)/\zVB T ops nx Kf (l1++l2) (after E o e) E.hp
 | [],e,_,_,_,h=>by
   obtain ⟨o',ho',h⟩:=h;rw [ho] at ho';cases ho';rcases h with ⟨h,_⟩|⟨_,E,h1,h2,h3⟩
   ·rw [hc] at h;cases h
   ·exact ⟨E,h1,⟨e,fun _ _=>rfl,h2⟩,h3⟩
 | (i, pi) ::l1,e,hl,hp2,hpw,h=>by
   obtain ⟨a,ha,ac,ap⟩:=hl (i,pi) (zQ ..);obtain ⟨hip,hself⟩:=hp2 (i,pi) (zQ ..);obtain ⟨hf,hpw⟩:=List.pairwise_cons.1 hpw;obtain ⟨a',ha',h⟩:=h;rw [ha] at ha';cases ha';rcases h with ⟨_,u,hu,h⟩|⟨h,_⟩
   ·obtain ⟨E,hE,⟨ee,he,hk⟩,k⟩:=zPk ho hc l1 (fun x hx=>hl x (zM _ hx)) (fun x hx=>hp2 x (zM _ hx)) hpw h;obtain ⟨kS,kD⟩:=hk i hip a ha
    have off: ∀ t∈a.looksAt ops,ee t=e t:=fun t ht=>by
     rw [he t fun x hx b hb q=>(hf x hx hip a b ha hb t q).1 ht];exact zIz fun q=>hself a ha t q ht
    have aft: ∀ t∈a.looksAt ops,after E o ee t=after E o e t:=fun t ht=>by
     have nd:o.dst≠some t:=fun q=>ap.2 t q ht;unfold after;rw [zIz nd,zIz nd,off t ht]
    refine ⟨E,⟨hE.1,hE.2.1,fun env hx=>hE.2.2 env fun x hxo=> ?_⟩,⟨ee,fun t ht=> ?_,hk⟩,a,ha,.inl ⟨ac,u,?_,?_⟩⟩
    ·rw [hx x hxo];exact (zQz (fun t q=>(ap.1 t q).1) x hxo).symm
    ·rw [he t fun x hx=>ht x (zM _ hx)];exact zIz (ht (i,pi) (zQ ..) a ha)
    ·exact (kS u (hu.congr fun t ht=>(off t ht).symm)).congr aft
    ·have e2:after E o (upd e a.dst u)=upd (after E o e) a.dst u:=by
      cases hd:a.dst with
      | none=>rfl
      | some d =>
        have nd:o.dst≠some d:=(ap.1 d hd).2
        have eed:ee d=u:=by
         rw [he d fun x hx b hb q=>(hf x hx hip a b ha hb d q).2 hd,hd];simp [upd]
        have fu:E.f u=u:=by
         have:=kD d hd;unfold after at this;rw [zIz nd,eed] at this;exact this
        unfold after;rw [<- zKP (fun t q=>by cases q;exact nd)]
        congr 1
        funext t
        simp only [upd];split
        ·exact fu
        ·rfl
     show zVB T ops nx Kf (l1++l2) (upd (after E o e) a.dst u) E.hp;rw [<- e2];exact k
   ·rw [ac] at h;cases h
def GOk (ops:Array Oper) (l:GL):Prop:= ∀ l1 x l2,l=l1++x::l2->QJ ops l1 x
theorem GOk.rm {a b:GL} {y:Nat×List Nat} (h:GOk ops (a++y::b)):GOk ops (a++b):=fun l1 x l2 e=>by
 rcases List.append_eq_append_iff.1 e with ⟨c,e1,e2⟩|⟨c,e1,e2⟩
 ·subst e1;exact (h (a++y::c) x l2 (by rw [e2];simp)).sub (List.append_sublist_append_left a |>.2 (List.sublist_cons_self ..))
 ·cases c with
  | nil =>
    rw [yW] at e1;subst e1;exact (h (a++[y]) x l2 (by rw [<- zBQ b,<- e2];simp)).sub (List.sublist_append_left ..)
  | cons z c =>
    cases e2;subst e1;exact h l1 x (c++y::b) (by simp)
structure Lst (ops:Array Oper) (k:Nat) (lk:Array Bool) (l:GL) (listed:Array Bool):Prop where
 dn:Dn ops listed
 un: ∀ x∈l,listed.getD x.1 true=false
 on: ∀ i,i<k->(∀ x∈l,x.1≠i)->listed.getD i false=true
 hi: ∀ i,k<=i->listed.getD i true=lk.getD i true
 nd:(l.map Prod.fst).Nodup
 lt: ∀ x∈l,x.1<k
 sz:listed.size=lk.size
 so:listed.size=ops.size
 ed: ∀ l1 x l2,l=l1++x::l2->∀ o,ops[x.1]? =some o->∀ e∈o.after,Region.binds .any e=true->(∃ y∈l1,y.1=e.on)\/listed.getD e.on false=true
theorem zFi {l:Array Bool} {i j:Nat} (h:l.getD j false=true):(l.setIfInBounds i true).getD j false=true:=by
 by_cases e:i=j
 ·subst e
  have:i<l.size:=by
   rcases Nat.lt_or_ge i l.size with q|q
   ·exact q
   ·simp [zK,yX q] at h
  simp [zK,this]
 ·rw [getD_set_ne false e];exact h
theorem zCz {l:Array Bool} {i:Nat} (h:l.getD i true=false):(l.setIfInBounds i true).getD i false=true:=by
 have:i<l.size:=by
  rcases Nat.lt_or_ge i l.size with q|q
  ·exact q
  ·simp [zK,yX q] at h
 simp [zK,this]
theorem zXN (R:zAS P T) (hall: ∀ (i:Nat) (o:Oper),ops[i]? =some o->y4 N o=true) {nx k fuel:Nat} {Kf:Fr->zAG->Prop} (lk:Array Bool)
 (hneed: ∀ j,j<ops.size->k<=j->zFF ops j [j]=true)
 (htail: ∀ (a:Act) (w:World) (listed:Array Bool) (env:Env) (hp:zAG),(∀ i<k,listed.getD i true=true)->(∀ i,k<=i->listed.getD i true=lk.getD i true)->listed.size=lk.size->Kf (qQ env) hp->GA B N ⟨env,hp,nx⟩ a w->wpAnyIn (FR r) n P .any ops Q fuel listed a w) :
 ∀ (m:Nat) (l:GL) (listed:Array Bool) (env:Env) (hp:zAG) (a:Act) (w:World),l.length=m->zVB T ops nx Kf l (qQ env) hp->GOk ops l->Lst ops k lk l listed->GA B N ⟨env,hp,nx⟩ a w->wpAnyIn (FR r) n P .any ops Q (m+fuel) listed a w
 | 0,l,listed,env,hp,a,w,hm,hpth,_,hL,hga=>by
   have:l=[]:=List.eq_nil_of_length_eq_zero hm;subst this;rw [yK];exact htail a w listed env hp (fun i hi=>zAy (hL.on i hi fun x hx=>by cases hx)) hL.hi hL.sz hpth hga
 | m + 1, l, listed,env,hp,a,w,hm,hpth,hG,hL,hga=>by
   rw [show m+1+fuel=(m+fuel)+1 by omega]
   have hhead: ∃ x∈l,x.1∈Region.ready .any ops listed:=by
    cases l with
    | nil=>cases hm
    | cons x l =>
      obtain ⟨o,ho,_⟩:=(hG [] x l rfl).kind;refine ⟨x,zQ ..,mem_ready.2 ⟨hL.un x (zQ ..),o,ho,fun e he hb=> ?_⟩⟩;rcases hL.ed [] x l rfl o ho e he hb with ⟨y,hy,_⟩|h
      ·cases hy
      ·exact h
   refine ⟨fun h0=>(by obtain ⟨x,_,hx⟩:=hhead;rw [h0] at hx;cases hx),fun i hi=> ?_⟩;obtain ⟨hun,o,ho,hedge⟩:=mem_ready.1 hi;have hop:=hall i o ho;have hdn:=hL.dn.set hi
   have hik:i<k:=by
    apply yE;intro hki;obtain ⟨x,hx,_⟩:=hhead;have his:i<ops.size:=(zR.1 ho).1
    have dn': ∀ j i',j<ops.size->(listed.setIfInBounds i true).getD j true=true->waits ops j i'=true->(listed.setIfInBounds i true).getD i' true=true:=fun j i' hjs hl hw=>by
     by_cases e:i=j
     ·subst e
      by_cases e2:i=i'
      ·subst e2;exact zA1
      ·rw [getD_set_ne true e2];exact zNi hi hw
     ·have hj:listed.getD j true=true:=by rw [getD_set_ne true e] at hl;exact hl
      by_cases e2:i=i'
      ·subst e2;exact zA1
      ·rw [getD_set_ne true e2];have q:j<listed.size:=by rw [hL.so];exact hjs
       refine zAy (hL.dn j i' ?_ hw);rw [zK,Array.getElem?_eq_getElem q] at hj ⊢;exact hj
    have:=zHd dn' i [i] (hneed i his (by omega)) (fun j hj=>by
     obtain rfl:=zD.1 hj
     exact ⟨his,zA1⟩) (by omega) x.1 (by have:=hL.lt x hx;omega)
    rw [getD_set_ne true (by have:=hL.lt x hx;omega),hL.un x hx] at this;cases this
   obtain ⟨x,hx,hxi⟩: ∃ x∈l,x.1=i:=by
    apply yE;intro hno;have:=zAy (hL.on i hik fun x hx e=>hno ⟨x,hx,e⟩);rw [hun] at this;cases this
   obtain ⟨l1,l2,rfl⟩:=List.append_of_mem hx;obtain ⟨i',pd⟩:=x;obtain rfl:i'=i:=hxi;have hQ:=hG l1 (i',pd) l2 rfl
   have hnw: ∀ p∈l1,zDN ops i' p.1=false:=fun p hp=>by
    rw [<- zA0];intro ht;have:=zAy (zDd hL.dn ht fun o' ho' e he hb=>by rw [ho] at ho';cases ho';exact hedge e he hb);rw [hL.un p (by simp [hp])] at this;cases this
   have hap: ∀ p∈l1,∃ b,ops[p.1]? =some b/\jN b.op=true/\Apart ops b o:=fun p hp=>by
    rcases hQ.ord p hp with e|⟨b,o',hb,ho',hc,ha⟩
    ·rw [hnw p hp] at e;cases e
    ·rw [ho] at ho';cases ho';exact ⟨b,hb,hc,ha⟩
   have hne: ∀ y∈l1++l2,y.1≠i':=fun y hy e=>by
    have hn:=hL.nd;rw [zA8,jV] at hn;obtain ⟨n1,n2,n3⟩:=List.nodup_append.1 hn;rcases zY.1 hy with k|k
    ·exact n3 y.1 (zS.2 ⟨y,k,rfl⟩) i' (zQ ..) e
    ·exact (yQ.1 n2).1 (by rw [<- e];exact zS.2 ⟨y,k,rfl⟩)
   have hin: ∀ y∈l1++l2,y∈l1++(i',pd)::l2:=fun y hy=>by
    rcases zY.1 hy with k|k<;>simp [k]
   have hL':Lst ops k lk (l1++l2) (listed.setIfInBounds i' true):=by
    refine ⟨hdn,fun y hy=> ?_,fun q hq hno=> ?_,fun q hq=> ?_,?_,fun y hy=>hL.lt y (hin y hy),by simpa using hL.sz,by simpa using hL.so,fun m1 y m2 e o' ho' ed hed hb=> ?_⟩
    ·rw [getD_set_ne true (hne y hy).symm];exact hL.un y (hin y hy)
    ·by_cases e:i'=q
     ·subst e;exact zCz hun
     ·refine zFi (hL.on q hq fun y hy=> ?_);rcases zY.1 hy with k|k
      ·exact hno y (by simp [k])
      ·rcases zP.1 k with k|k
       ·rw [k];exact e
       ·exact hno y (by simp [k])
    ·rw [getD_set_ne true (by omega)];exact hL.hi q hq
    ·refine hL.nd.sublist (List.Sublist.map _ ?_);exact (List.append_sublist_append_left l1).2 (List.sublist_cons_self ..)
    ·rcases List.append_eq_append_iff.1 e with ⟨c,e1,e2⟩|⟨c,e1,e2⟩
     ·subst e1;rcases hL.ed (l1++(i',pd)::c) y m2 (by rw [e2];simp) o' ho' ed hed hb with ⟨z,hz,ez⟩|k
      ·rcases zY.1 hz with k|k
       ·exact .inl ⟨z,by simp [k],ez⟩
       ·rcases zP.1 k with k|k
        ·right;rw [<- ez,k];exact zCz hun
        ·exact .inl ⟨z,by simp [k],ez⟩
      ·exact .inr (zFi k)
     ·cases c with
      | nil =>
        rw [yW] at e1;subst e1;rcases hL.ed (l1++[(i',pd)]) y m2 (by rw [<- zBQ l2,<- e2];simp) o' ho' ed hed hb with ⟨z,hz,ez⟩|k
        ·rcases zY.1 hz with k|k
         ·exact .inl ⟨z,k,ez⟩
         ·right;rw [<- ez,zD.1 k];exact zCz hun
        ·exact .inr (zFi k)
      | cons z c =>
        cases e2;subst e1;rcases hL.ed m1 y (c++(i',pd)::l2) (by simp) o' ho' ed hed hb with k|k
        ·exact .inl k
        ·exact .inr (zFi k)
   have hlen:(l1++l2).length=m:=by
    simp only [z7,zZ] at hm ⊢;omega
   have nxt: ∀ (env':Env) (hp':zAG) (a':Act) (w':World),zVB T ops nx Kf (l1++l2) (qQ env') hp'->GA B N ⟨env',hp',nx⟩ a' w'->wpAnyIn (FR r) n P .any ops Q (m+fuel) (listed.setIfInBounds i' true) a' w':=fun env' hp' a' w' h1 h2 =>
    zXN R hall lk hneed htail m (l1++l2) _ env' hp' a' w' hlen h1 hG.rm hL' h2
   unfold wpOpIn;simp only [ho];cases hc:jN o.op with
   | true =>
     obtain ⟨v,hv,hk⟩:=zNR ho hc l1 hap hpth
     have step: ∀ {a':Act} {w':World},GA B N ((⟨env,hp,nx⟩:St).put o.dst v) a' w'->wpAnyIn (FR r) n P .any ops Q (m+fuel) (listed.setIfInBounds i' true) a' w':=fun {a' w'} hg=>by
      obtain ⟨env',e2,e3⟩:=zCK env hp nx o.dst v;rw [e2] at hg;exact nxt env' hp a' w' (by rw [e3];exact hk) hg
     rcases hv with ⟨hw,p,q,hcv,hq⟩|⟨hw,rfl⟩
     ·rw [if_pos (zF7 hw rfl hga)];rw [zBU] at hcv;exact (zKz R hga hop hcv).2 hq fun a' w' hg=>step hg
     ·rw [if_neg (by rw [zF7 hw rfl hga];simp)];exact ⟨fun f _=>trivial,step (zFQ hga hop)⟩
   | false =>
     have hca:zEV ops i'=false:=by unfold zEV;rw [ho];exact hc
     obtain ⟨E,hE,_,hk⟩:=zPk ho hc l1 hap (fun p hp=>by
      obtain ⟨b,hb,hbc,_⟩:=hap p hp;rcases hQ.pend hca p hp (by unfold zEV;rw [hb];exact hbc) with e|e
      ·rw [hnw p hp] at e;cases e
      ·exact e) (hQ.pair hca) hpth
     obtain ⟨hg,hq,hloc⟩:=hE;rw [if_pos (by simp [Region.wanted,hg])];obtain ⟨env',he,e3⟩:=hloc env fun x _=>by rw [zBU]
     exact (zIW R hga hop he).2 hq fun a' w' hg'=>nxt env' E.hp a' w' (by rw [e3];exact hk) hg'
theorem zE0 {o:Oper} (h:zK7 o=true):o.guard=none/\o.dst=none/\∃ t x y,o.op= .store t x y:=by
 unfold zK7 at h;split at h
 ·rename_i t x y h1 h2 h3;exact ⟨h2,h3,t,x,y,h1⟩
 ·cases h
theorem zPC {x y:Operand} {ts:Array TypeId} {o:Oper} (hop:o.op= .call ⟨.builtin .append,#[x,y],ts⟩) (st:St):zCR T true o st=zEq T o st/\zEq T o st=zBu T ts.toList (jW st.env x) (jW st.env y) st o.dst:=by
 constructor
 ·simp only [zCR,zAJ,zAh,hop,zUz,zBK,zFU,zLT,zI7]
 ·simp only [zEq,hop,zBK]
theorem zRk {ts:List TypeId} {e:ETy} {yv:AV} {env:Env} {hp:zAG} {nx:Nat} {d:Option Tmp} {res} (h:zNa T ts e yv ⟨env,hp,nx⟩ d=some res) :
 ∃ g n' hp' q,res=(none,q,(⟨env.mapAS (kill g),hp',nx⟩:St).put d (.s (.own g 0 n')))/\∀ env',zNa T ts e yv ⟨env',hp,nx⟩ d=some (none,q,(⟨env'.mapAS (kill g),hp',nx⟩:St).put d (.s (.own g 0 n'))):=by
 unfold zNa at h ⊢;dsimp only at h ⊢;split at h
 case h_2=>cases h
 rename_i t t' e' ys g hp2 hys;split at h
 case h_2=>cases h
 rename_i u hb hd;split at h
 case h_2=>cases h
 rename_i he ui hdec hui;split at h
 case h_2=>cases h
 rename_i c1 c2 c3;refine ⟨g,ys.length,_,_,(Option.some.inj h).symm,fun env'=> ?_⟩;simp only [hys,hb,hd,hdec,hui,c1,c2,c3]
theorem zMy {f:AV->AV} {env env1:Env} {hp:zAG} {nx:Nat} {o:Oper} {v:AV} {q:Option Prop} (h: ∀ t,qQ env1 t=f (qQ env t)): ∃ env',(⟨env1,hp,nx⟩:St).put o.dst v=⟨env',hp,nx⟩/\qQ env'=after ⟨f,v,hp,q⟩ o (qQ env):=by
 obtain ⟨env',e1,e2⟩:=zCK env1 hp nx o.dst v;exact ⟨env',e1,by rw [e2];unfold after;congr 1;funext t;exact h t⟩
theorem zZ9 {o:Oper} (hg:zRL o=true) {env:Env} {hp:zAG} {nx:Nat} {p q:Option Prop} {st':St} (h:zEq T o ⟨env,hp,nx⟩=some (p,q,st')) :
 o.guard=none/\jN o.op=false/\∃ (E:Ef) (env':Env),p=none/\q=E.q/\st'=⟨env',E.hp,nx⟩/\qQ env'=after E o (qQ env)/\∀ env1,(∀ x∈o.op.operands,jW env1 x=jW env x)->∃ env2,zEq T o ⟨env1,hp,nx⟩=some (none,E.q,⟨env2,E.hp,nx⟩)/\qQ env2=after E o (qQ env1):=by
 unfold zRL at hg;split at hg
 ·rename_i r happ;obtain ⟨x,y,d⟩:=r;obtain ⟨hgd,hd,ts,hop⟩:=zDQ happ;refine ⟨hgd,by rw [hop];rfl,?_⟩;have he: ∀ st:St,zEq T o st=zBu T ts.toList (jW st.env x) (jW st.env y) st o.dst:=fun st=>(zPC hop st).2;have hx:x∈o.op.operands:=by rw [hop];simp [Op.operands,Call.operands]
  have hy:y∈o.op.operands:=by rw [hop];simp [Op.operands,Call.operands]
  rw [he] at h
  have fin: ∀ {g n':Nat} {hp':zAG} {q0:Option Prop},(p,q,st')=(none,q0,(⟨env.mapAS (kill g),hp',nx⟩:St).put o.dst (.s (.own g 0 n')))->(∀ env',zBu T ts.toList (jW env x) (jW env y) ⟨env',hp,nx⟩ o.dst=some (none,q0,(⟨env'.mapAS (kill g),hp',nx⟩:St).put o.dst (.s (.own g 0 n'))))->
   ∃ (E:Ef) (env':Env),p=none/\q=E.q/\st'=⟨env',E.hp,nx⟩/\qQ env'=after E o (qQ env)/\∀ env1,(∀ x∈o.op.operands,jW env1 x=jW env x)->∃ env2,zEq T o ⟨env1,hp,nx⟩=some (none,E.q,⟨env2,E.hp,nx⟩)/\qQ env2=after E o (qQ env1):=fun {g n' hp' q0} e k=>by
   cases e;obtain ⟨env',e1,e2⟩:=zMy (o:=o) (hp:=hp') (nx:=nx) (v:= .s (.own g 0 n')) (q:=q) (f:=fun v=>v.mapAS (kill g)) (fun t=>zBt (f:=kill g) (env:=env) rfl (t:=t));refine ⟨⟨fun v=>v.mapAS (kill g),.s (.own g 0 n'),hp',q⟩,env',rfl,rfl,e1,e2,fun env1 ho=> ?_⟩;obtain ⟨env2,e3,e4⟩:=zMy (o:=o) (hp:=hp') (nx:=nx) (v:= .s (.own g 0 n')) (q:=q) (f:=fun v=>v.mapAS (kill g)) (fun t=>zBt (f:=kill g) (env:=env1) rfl (t:=t))
   refine ⟨env2,?_,e4⟩;rw [he];show zBu T ts.toList (jW env1 x) (jW env1 y) ⟨env1,hp,nx⟩ o.dst=_;rw [ho x hx,ho y hy,k env1,e3]
  by_cases hemp: ∃ e,jW env x= .s (.emp e)
  ·obtain ⟨e,hxe⟩:=hemp;have hun: ∀ st,zBu T ts.toList (jW env x) (jW env y) st o.dst=zNa T ts.toList e (jW env y) st o.dst:=fun st=>by rw [hxe];rfl
   have h:zBu T ts.toList (jW env x) (jW env y) ⟨env,hp,nx⟩ o.dst=some (p,q,st'):=h;rw [hun] at h;obtain ⟨g,n',hp',q0,e1,e2⟩:=zRk h;exact fin e1 fun env'=>by rw [hun];exact e2 env'
  ·obtain ⟨r,s,n1,n',row,q0,_,_,e1,e2⟩:=zNy (fun e k=>hemp ⟨e,k⟩) h;exact fin e1 e2
 ·obtain ⟨hgd,hd,t,x,y,hop⟩:=zE0 hg;refine ⟨hgd,by rw [hop];rfl,?_⟩;have he: ∀ st:St,zEq T o st=zCB T t (jW st.env x) (jW st.env y) st none:=fun st=>by simp only [zEq,hop,hd]
  have hx:x∈o.op.operands:=by rw [hop];simp [Op.operands]
  have hy:y∈o.op.operands:=by rw [hop];simp [Op.operands]
  rw [he] at h
  have key:p=none/\q=none/\∃ hp',st'=⟨env,hp',nx⟩/\∀ env1,zCB T t (jW env x) (jW env y) ⟨env1,hp,nx⟩ none=some (none,none,⟨env1,hp',nx⟩):=by
   have h:zCB T t (jW env x) (jW env y) ⟨env,hp,nx⟩ none=some (p,q,st'):=h;unfold zCB at h ⊢;dsimp only at h ⊢
   repeat' (split at h<;>try contradiction)
   all_goals (cases h;exact ⟨rfl,rfl,_,rfl,fun env1=>by simp_all [St.put]⟩)
  obtain ⟨rfl,rfl,hp',rfl,k⟩:=key;refine ⟨⟨id,.undef,hp',none⟩,env,rfl,rfl,rfl,by unfold after;rw [hd];rfl,fun env1 ho=>⟨env1,?_,by unfold after;rw [hd];rfl⟩⟩;rw [he];show zCB T t (jW env1 x) (jW env1 y) ⟨env1,hp,nx⟩ none=_;rw [ho x hx,ho y hy,k env1]
theorem zZ3 (R:zAS P T) {o:Oper} (hg:zRL o=true) (hop:y4 N o=true) {env:Env} {hp:zAG} {nx:Nat} (h:GA B N ⟨env,hp,nx⟩ a w) {K:St->Prop} (hk:zBj T true ops [o] ⟨env,hp,nx⟩ K) :
 jN o.op=false/\∃ E env' a' w',z2A T o hp nx E (qQ env)/\qQ env'=after E o (qQ env)/\K ⟨env',E.hp,nx⟩/\GA B N ⟨env',E.hp,nx⟩ a' w':=by
 have hgd:o.guard=none:=by
  unfold zRL at hg;split at hg
  ·rename_i r happ;obtain ⟨x,y,d⟩:=r;exact (zDQ happ).1
  ·exact (zE0 hg).1
 have hst:zCR T true o ⟨env,hp,nx⟩=zEq T o ⟨env,hp,nx⟩:=by
  unfold zRL at hg;split at hg
  ·rename_i r happ;obtain ⟨x,y,d⟩:=r;obtain ⟨_,_,ts,hop⟩:=zDQ happ;exact (zPC hop _).1
  ·obtain ⟨_,_,t,x,y,hop⟩:=zE0 hg;simp only [zCR,zAJ,zAh,hop,zLT,zI7]
 have haop:aop T true o ⟨env,hp,nx⟩ fun st3=>K st3:=by
  simp only [zBj,hgd] at hk;exact hk
 simp only [aop] at haop;unfold zRM at haop;rw [hst] at haop;simp only [St.force_eq] at haop
 have fin: ∀ {p q:Option Prop} {st':St},zEq T o ⟨env,hp,nx⟩=some (p,q,st')->Opt q->K st'->jN o.op=false/\∃ E env' a' w',z2A T o hp nx E (qQ env)/\qQ env'=after E o (qQ env)/\K ⟨env',E.hp,nx⟩/\GA B N ⟨env',E.hp,nx⟩ a' w':=fun {p q st'} he hq hk=>by
  obtain ⟨a',w',hga⟩:=zC9 ((zIW (r:=none) (n:=0) R h hop he).2 hq (K:=fun a' w'=>GA B N st' a' w') (Q:=fun _ _ _=>False) fun _ _ h=>h);obtain ⟨h1,h2,E,env',rfl,rfl,rfl,h3,h4⟩:=zZ9 hg he;exact ⟨h2,E,env',a',w',⟨h1,hq,fun env1 hx=>h4 env1 fun x hxo=>by rw [hx x hxo,zBU]⟩,h3,hk,hga⟩
 split at haop
 ·rename_i st' hs;exact fin hs trivial haop
 ·rename_i p st' hs;exact fin hs trivial (haop.out (zIW (r:=none) (n:=0) R h hop hs).1)
 ·rename_i q st' hs;obtain ⟨k1,k2⟩:=haop.out;exact fin hs k1 k2
 ·rename_i p q st' hs;obtain ⟨k1,k2⟩:=(haop.out (zIW (r:=none) (n:=0) R h hop hs).1).out;exact fin hs k1 k2
 ·exact haop.elim
theorem zLc {env:Env} {o:Oper} {b:Bool} (h:zWG ops env o=some b):jM ops (qQ env) o=some b:=by
 unfold zWG at h;unfold jM;cases hg:o.guard with
 | none=>simpa [hg] using h
 | some jw =>
   obtain ⟨j,want⟩:=jw;simp only [hg] at h ⊢;have hne:zD6 ops env j≠.junk:=fun e=>by rw [e] at h;cases h
   obtain ⟨d,hd,hd2⟩:=zAT (ops:=ops) (env:=env) (j:=j) (by
    intro e;exact hne e)
   rw [hd2] at h;simp only [hd];split at h
   ·rename_i e;rw [<- h,e];cases want<;>rfl
   ·rename_i e;rw [<- h,e];cases want<;>rfl
   ·rename_i e;rw [<- h,e]
   ·cases h
theorem zPI {env env':Env} {hp:zAG} {nx:Nat} {E:Ef} {o:Oper} (he:qQ env'=after E o (qQ env)): ∀ {pd:List Nat} {K:Prop},zXJ T ops ⟨env,hp,nx⟩ ⟨env',E.hp,nx⟩ pd K->(∀ p∈pd,∀ op,ops[p]? =some op->zUv T ops hp E o (qQ env) op)/\K
 | [],_,h=>⟨fun p hp=>(by cases hp),h⟩
 | p ::r,K,h=>by
   unfold zXJ at h;split at h
   case h_2=>cases h
   rename_i op hop;split at h
   case h_2=>cases h
   rename_i d hd
   have fin:zUv T ops hp E o (qQ env) op->zXJ T ops ⟨env,hp,nx⟩ ⟨env',E.hp,nx⟩ r K->(∀ p'∈p::r,∀ op,ops[p']? =some op->zUv T ops hp E o (qQ env) op)/\K:=fun h1 h2=>by
    obtain ⟨k1,k2⟩:=zPI he h2;refine ⟨fun p' hp' op' hop'=> ?_,k2⟩;rcases zP.1 hp' with e|e
    ·subst e;rw [hop] at hop';cases hop';exact h1
    ·exact k1 p' e op' hop'
   split at h
   ·rename_i w1 w2;obtain ⟨h1,h2,h3⟩:=h.out;have f1:=zLc w1;have f2:=zLc w2;refine fin ⟨fun v hv=> ?_,fun d' hd'=> ?_⟩ h3
    ·rw [<- he];rcases hv with ⟨_,p',q',hc,hq⟩|⟨hf,_⟩
     ·rw [zBU] at hc;exact .inl ⟨f2,p',q',by rw [zBU];exact h1.symm.trans hc,hq⟩
     ·rw [f1] at hf;cases hf
    ·rw [hd] at hd';cases hd';rw [<- he];exact h2
   ·rename_i w1 w2;obtain ⟨h2,h3⟩:=h;have f1:=zLc w1;have f2:=zLc w2;refine fin ⟨fun v hv=> ?_,fun d' hd'=> ?_⟩ h3
    ·rw [<- he];rcases hv with ⟨hf,_⟩|⟨_,hv⟩
     ·rw [f1] at hf;cases hf
     ·exact .inr ⟨f2,hv⟩
    ·rw [hd] at hd';cases hd';rw [<- he];exact h2
   ·exact h.elim
theorem zZx (R:zAS P T) (hall: ∀ (i:Nat) (o:Oper),ops[i]? =some o->y4 N o=true) {nx:Nat} {K:St->Prop} : ∀ (l:GL) {env:Env} {hp:zAG} {a:Act} {w:World},(∀ x∈l,∃ o,ops[x.1]? =some o/\(jN o.op=true\/zRL o=true))->
 GA B N ⟨env,hp,nx⟩ a w->zMb T ops l ⟨env,hp,nx⟩ K->zVB T ops nx (fun e hp=> ∃ env',qQ env'=e/\K ⟨env',hp,nx⟩) l (qQ env) hp
 | [],env,hp,a,w,_,_,hk=>⟨env,rfl,hk⟩
 | (i,pd)::l,env,hp,a,w,hl,h,hk=>by
   unfold zMb at hk;obtain ⟨o,ho,hkind⟩:=hl (i,pd) (zQ ..);simp only [ho] at hk;have hop:=hall i o ho;have hl': ∀ x∈l,∃ o,ops[x.1]? =some o/\(jN o.op=true\/zRL o=true):=fun x hx=>hl x (zM _ hx);cases hc:jN o.op with
   | true =>
     obtain ⟨v,env1,a1,w1,e1,k1,g1,y1⟩:=zV8 R hc hop h hk;refine ⟨o,ho,.inl ⟨hc,v,y1,?_⟩⟩;rw [<- e1];exact zZx R hall l hl' g1 (gSkip k1)
   | false =>
     rw [hc] at hkind;obtain ⟨_,E,env1,a1,w1,hE,e1,k1,g1⟩:=zZ3 R (hkind.resolve_left (by simp)) hop h hk;obtain ⟨hkp,k2⟩:=zPI e1 k1;refine ⟨o,ho,.inr ⟨hc,E,hE,hkp,?_⟩⟩;rw [<- e1];exact zZx R hall l hl' g1 k2
where
 gSkip {st st':St} {K:Prop} : ∀ {pd:List Nat},zXJ T ops st st' pd K->K
  | [],h=>h
  | p::r,h=>by
    unfold zXJ at h;split at h
    case h_2=>cases h
    split at h
    case h_2=>cases h
    split at h
    ·exact gSkip h.out.2.2
    ·exact gSkip h.2
    ·exact h.elim
end
end Go.Vm
namespace Go.Vm
open Go.RowKit
section
variable {P:Program} {T:Tab} {B:Base} {w w':World} {I:Sig} {M:yN} {st:St} {tmps:Array Value} {o:Oper} {ρ:Operand->Value}
def zLd (T:Tab) (op:Op) (ev:Operand->AV):Option (Option Prop×Ob×(Nat->AS)) :=
 match op with
 | .alloc t=>match T.info t with
   | some ti=>some (none,.flat t ti.zero,fun i=> .ptr i 0 0)
   | none=>none
 | .box t x=>match (ev x).flat with
   | some cs=>some (none,.flat t cs,fun i=> .ptr i 0 0)
   | none=>none
 | .makeMap t none=>match T.desc t with
   | .map k v=>match T.info k,T.info v with
     | some ki,some vi=>match ki.ety,vi.ety with
       | some ek,some (.sl e)=>some (none,.gmap ek e [],.omp)
       | some ek,some ev=>some (none,.map ek ev [],.omp)
       | _,_=>none
     | _,_=>none
   | _=>none
 | .makeSlice t l c=>match T.desc t,ev l,ev c with
   | .slice u,.s (.int .i64 n),.s (.int .i64 c)=>match T.info u with
     | some ui=>match ui.ety with
       | some (.sl e)=>match Nat.beq ui.bytes 0 with
         | false=>some (some (0<=n/\n<=c/\c*ui.bytes<=140737488355328),.grow e u (List.replicate n.toNat []),fun i=> .own i 0 n.toNat)
         | true=>none
       | some e=>match Nat.beq ui.bytes 0 with
         | false=>some (some (0<=n/\n<=c/\c*ui.bytes<=140737488355328),.row e u (List.replicate n.toNat e.dflt),fun i=> .own i 0 n.toNat)
         | true=>none
       | none=>none
     | none=>none
   | _,_,_=>none
 | _=>none
theorem zTS {ob:Ob} {ref:Nat->AS} {q0:Option Prop} (hm:zLd T o.op (jW st.env)=some (q0,ob,ref)):zEq T o st=some (none,q0,st.mk' o.dst ob ref):=by
 obtain ⟨dst,op,type,pos,after,guard⟩:=o;change zLd T op (jW st.env)=_ at hm;unfold zLd at hm;split at hm
 ·split at hm
  ·rename_i ti hti;cases hm;simp only [zEq,hti];rfl
  ·cases hm
 ·split at hm
  ·rename_i cs hcs;cases hm;simp only [zEq,hcs];rfl
  ·cases hm
 ·simp only [zEq,zFs];split at hm
  ·rename_i k v hd;split at hm
   ·rename_i ki vi h1 h2;simp only [hd,h1,h2];split at hm
    ·rename_i ek e h3 h4;cases hm;simp only [h3,h4];rfl
    ·rename_i ek ev hno h3 h4;cases hm;rw [h3,h4];split
     ·rename_i e1 e2;cases e1;cases e2;exact (hno _ rfl).elim
     ·rename_i e1 e2;cases e1;cases e2;rfl
     ·rename_i e1 e2;exact (e2 _ _ rfl rfl).elim
    ·cases hm
   ·cases hm
  ·cases hm
 ·simp only [zEq,zDY];split at hm
  ·rename_i u n c hd h1 h2;simp only [hd,h1,h2];split at hm
   ·rename_i ui hui;simp only [hui];split at hm
    ·rename_i e he;simp only [he];split at hm
     ·rename_i hb;cases hm;simp only [hb];rfl
     ·cases hm
    ·rename_i e hno he;rw [he];split at hm
     ·rename_i hb;cases hm;split
      ·rename_i e1;cases e1;exact (hno _ rfl).elim
      ·rename_i e1;cases e1;simp only [hb];rfl
      ·rename_i e1;cases e1
     ·cases hm
    ·cases hm
   ·cases hm
  ·cases hm
 ·cases hm
structure zVE (I:Sig) (M:yN) (w w':World) (v:Value) (pl:Bk) (ob:Ob) (ref:Nat->AS):Prop where
 new:pl.b=w.heap.size
 old: ∀ k,k<w.heap.size->w'.heap[k]? =w.heap[k]?
 bel: ∀ n,n<=w.heap.size->Below n w w'
 at_: ∀ (β':yN) (id:Nat),β'[id]? =some (some pl)->(∀ a x,y7 I M a x->y7 I β' a x)->zAt I β' w' id ob/\y7 I β' (ref id) v
theorem zVE.alloc {o':Obj} {v:Value} {pl:Bk} {ob:Ob} {ref:Nat->AS} (hn:pl.b=w.heap.size)
 (h: ∀ (β':yN) (id:Nat),β'[id]? =some (some pl)->(∀ a x,y7 I M a x->y7 I β' a x)->zAt I β' (w.alloc o') id ob/\y7 I β' (ref id) v):zVE I M w (w.alloc o') v pl ob ref :=
 ⟨hn,alloc_old w _,fun _ hb=>Below.alloc' w _ hb,h⟩
theorem zQm (hT:zAZ P T) (hE:zGx T) {ev:Operand->AV} (hops: ∀ x∈o.op.operands,qA I M (ev x) (ρ x)) {ob:Ob} {ref:Nat->AS} {q:Option Prop} (hm:zLd T o.op ev=some (q,ob,ref)) (hq:Opt q) :
 ∃ v w' pl,(execOp ρ o).run P w= .ok (.value v) w'/\zVE I M w w' v pl ob ref:=by
 obtain ⟨dst,op,type,pos,after,guard⟩:=o;change zLd T op ev=_ at hm;change ∀ x∈op.operands,_ at hops;unfold zLd at hm;split at hm
 ·rename_i t;split at hm
  ·rename_i ti hti;cases hm;obtain ⟨i,z,hi,hs,hb,hz,hzl⟩:=(hT _ _ hti).get;refine ⟨.pointer (some ⟨w.heap.size,0,none⟩),w.alloc (.cells z.cells t),⟨w.heap.size,0,ti.zero.length,ti.zero.length,1⟩,by simp [execOp,Instr.alloc,zeroValue,typeInfo,hi,hz,newVar,newRow],zVE.alloc rfl fun β' id hl hmono=>⟨⟨_,hl,rfl,rfl,rfl,rfl,_,Go.heap_alloc_new w _,?_⟩,⟨_,hl,by simp,by simp⟩⟩⟩;rw [hzl];exact zEk (hT _ _ hti).zok
  ·cases hm
 ·rename_i t x;split at hm
  ·rename_i cs hcs;cases hm;have ha:=zBW (hops x (by simp [Op.operands])) hcs;exact ⟨_,_,⟨w.heap.size,0,cs.length,cs.length,1⟩,by simp [execOp,Instr.box,newVar,newRow];rfl,zVE.alloc rfl fun β' id hl hmono=>⟨⟨_,hl,rfl,rfl,rfl,rfl,_,Go.heap_alloc_new w _,ha.mono hmono⟩,⟨_,hl,by simp,by simp⟩⟩⟩
  ·cases hm
 ·rename_i t
  have fin: ∀ {ob:Ob},(∀ (β':yN) (id:Nat),β'[id]? =some (some ⟨w.heap.size,0,0,0,0⟩)->zAt I β' (w.alloc (.map #[] 0)) id ob)->∃ v w' pl,(execOp ρ ⟨dst,.makeMap t none,type,pos,after,guard⟩).run P w= .ok (.value v) w'/\zVE I M w w' v pl ob .omp:=fun hob =>
   ⟨.map (some w.heap.size),w.alloc (.map #[] 0),⟨w.heap.size,0,0,0,0⟩,by simp [execOp,Instr.makeMap],zVE.alloc rfl fun β' id hl _=>⟨hob β' id hl,⟨_,hl,rfl,rfl⟩⟩⟩
  split at hm
  ·split at hm
   ·split at hm
    ·cases hm;exact fin fun β' id hl=>⟨by simp,_,#[],0,hl,(MapKept.heap_alloc w _).1,rfl,fun i x hx=>by simp at hx,⟨by simp,by simp⟩,by simp [MapKept.Stamped]⟩
    ·cases hm;exact fin fun β' id hl=>⟨by simp,_,#[],0,hl,(MapKept.heap_alloc w _).1,⟨rfl,MapKept.stamped_empty 0⟩,fun i x hx=>by simp at hx⟩
    ·cases hm
   ·cases hm
  ·cases hm
 ·rename_i t l c;split at hm
  ·rename_i u n cc hdc hl hc;split at hm
   ·rename_i ui hui
    have common: ∀ {e:ETy},ui.ety=some e->Nat.beq ui.bytes 0=false->(0<=n/\n<=cc/\cc*ui.bytes<=140737488355328)->
     ∃ (i:TypeInfo) (z:Value),i.size=ui.size/\z.cells=ui.zl.toArray/\ui.zl=e.zeroVals/\ui.size=e.size/\cc<=140737488355328/\
       (execOp ρ ⟨dst,.makeSlice t l c,type,pos,after,guard⟩).run P w= .ok (.value (.slice (some ⟨w.heap.size,0,none⟩) n.toNat cc.toNat)) (w.alloc (.cells (madeCells z.cells (cc.toNat*i.size)) u)):=by
     intro e hety hbz ⟨h0,h1,h2⟩;obtain ⟨hz,hs⟩:=hE _ _ hui _ hety;obtain ⟨i,z,hi,hsi,hbi,hzz,hzl⟩:=(hT _ _ hui).get;have e1:=hops l (by simp [Op.operands]);have e2:=hops c (by simp [Op.operands]);rw [hl] at e1;rw [hc] at e2;obtain ⟨e1,_⟩:=e1;obtain ⟨e2,hk2⟩:=e2;have hbne:ui.bytes≠0:=by intro e;rw [e] at hbz;cases hbz
     have hcb:cc<=140737488355328:=by
      have:cc*1<=cc*(ui.bytes:Int):=Int.mul_le_mul_of_nonneg_left (by omega) (by omega);omega
     have hzs:z.cells=ui.zl.toArray:=by rw [<- hzl]
     have hrun:=run_make (P:=P) w t u i z (hT.und hdc (by simp)) hi hzz .i64 .i64 n cc h0 h1 (by rw [hbi,Int.mul_comm];omega) (by omega);exact ⟨i,z,hsi,hzs,hz,hs,hcb,by simp [execOp,e1,e2,hrun]⟩
    split at hm
    ·rename_i e hety;split at hm
     ·rename_i hbz;cases hm;obtain ⟨i,z,hsi,hzs,hz,hs,hcb,hrun⟩:=common hety hbz hq;obtain ⟨h0,h1,h2⟩:=hq;have hs1:ui.size=1:=hs;have hcs:(madeCells z.cells (cc.toNat*i.size)).size=cc.toNat:=by rw [size_madeCells,hsi,hs1,Nat.mul_one]
      have hcc: ∀ v∈(madeCells z.cells (cc.toNat*i.size)).toList,v= .slice none 0 0:=by
       intro v hv;rw [hzs,hz] at hv;simp only [madeCells,Array.toList_map,zS] at hv;obtain ⟨k,_,rfl⟩:=hv;simp [ETy.zeroVals,Nat.mod_one]
      refine ⟨_,_,⟨w.heap.size,0,1,cc.toNat,n.toNat⟩,hrun,zVE.alloc rfl fun β' id hl _=>⟨⟨by simp;omega,_,hl,rfl,by simp,by simp;omega,_,Go.heap_alloc_new w _,hcs,fun i' x hx=> ?_,fun v hv=> .inl (hcc v (zAE (zAd hv))),?_⟩,?_⟩⟩
      ·have hi:=(zG.1 hx).1;simp only [jH] at hi;rw [yU,if_pos hi] at hx;cases hx;refine ⟨.slice none 0 0,⟨none,0,rfl,by simp,by simp,fun h=>(h rfl).elim⟩,?_⟩;have hlt:i'<(madeCells z.cells (cc.toNat*i.size)).toList.length:=by rw [zFZ,hcs];omega
       rw [yK,<- zJ,zB hlt,hcc _ (y6 _)]
      ·refine List.Pairwise.imp_of_mem (R:=fun _ _=>True) ?_ (List.pairwise_of_forall fun _ _=>trivial);intro v v' hv _ _ b o' n' c' b2 o2 n2 c2 e1;rw [hcc v (zAE (zAd hv))] at e1;cases e1
      ·simp only [y7,hl];exact ⟨_,cc.toNat,rfl,by omega,.inr (by simp),by simp,by simp⟩
     ·cases hm
    ·rename_i e hno hety;split at hm
     ·rename_i hbz;cases hm;obtain ⟨i,z,hsi,hzs,hz,hs,hcb,hrun⟩:=common hety hbz hq;obtain ⟨h0,h1,h2⟩:=hq;refine ⟨_,_,⟨w.heap.size,0,e.size,cc.toNat*e.size,n.toNat⟩,hrun,zVE.alloc rfl fun β' id hl _=>⟨?_,?_⟩⟩
      ·refine ⟨by simp;omega,?_⟩;simp only [hl];refine ⟨trivial,by simp,by rw [yK];exact yD _ (by omega),_,Go.heap_alloc_new w _,by rw [size_madeCells,hsi,hs],fun i' x hx=> ?_⟩;have hr:=zIU (I:=I) hz cc.toNat;rw [<- hs,<- hsi,<- hzs] at hr;have hi':=(zG.1 hx).1;simp at hi'
       have hx':(List.replicate cc.toNat e.dflt)[i']? =some x:=by
        rw [yU,if_pos (by omega)] at hx ⊢;exact hx
       obtain ⟨d,f1,f2⟩:=hr i' x hx';exact ⟨d,f1,fun j v hj=>by rw [<- zJ];exact f2 j v hj⟩
      ·simp only [y7,hl];exact ⟨_,cc.toNat,rfl,by omega,.inr (by simp),by simp,by simp⟩
     ·cases hm
    ·cases hm
   ·cases hm
  ·cases hm
 ·cases hm
theorem GG.reviveG (h:GG B I M st tmps w) {id:Nat} (hdd:M[id]? =some dead) {d:Option Tmp} (hd:zBM d tmps) {v:Value} {pl:Bk} {ob:Ob} {ref:Nat->AS} (hm:zVE I M w w' v pl ob ref) :
 GG B I (M.set id (some pl)) (({st with hp:=(id,ob)::st.hp} :St).put d (.s (ref id))) (zHM tmps d v) w':=by
 have hid:id<M.length:=(zG.1 hdd).1;have hlast:(M.set id (some pl))[id]? =some (some pl):=by simp [hid]
 have hold: ∀ {i:Nat},i≠id->(M.set id (some pl))[i]? =M[i]? :=fun hi=>qP (Ne.symm hi);have hsig: ∀ b o,I b=some o->b<w.heap.size:=fun b o e=>h.mem.ag.lt e;have hw:=hm.old;obtain ⟨hob,hrv⟩:=hm.at_ _ _ hlast fun _ _=>y7.revive hdd _;refine GG.put (st:= {st with hp:=(id,ob)::st.hp}) ⟨⟨fun b o e=> ?_,fun id' ob' hi=> ?_⟩,fun t=>(h.env t).map fun _ _=>y7.revive hdd _,by simp [h.len],fun id' ob' p hi hp=> ?_,h.bel.trans (hm.bel _ h.bel.size),h.grew⟩ hd hrv
 ·rw [hw b (hsig b o e)];exact h.mem.ag _ _ e
 ·simp only [yB] at hi;split at hi
  ·rename_i e;subst e;cases hi;exact hob
  ·rename_i hne;exact (h.mem.ob _ _ hi).revive hdd (Ne.symm hne) _ (fun p hp=>hw _ ((h.mem.ob _ _ hi).lt hp)) fun b o e=>hw b (hsig b o e)
 ·simp only [yB] at hi;split at hi
  ·rename_i e;subst e;rw [hlast] at hp;cases hp;refine ⟨?_,by rw [hm.new];exact h.bel.size,fun id2 ob2 p2 hne hi2 hp2=> ?_⟩
   ·rw [hm.new];cases e:I w.heap.size with
    | none=>rfl
    | some o=>have:=hsig _ _ e;omega
   ·simp only [yB] at hi2;rw [if_neg (Ne.symm hne)] at hi2;rw [hold hne] at hp2;have:=(h.mem.ob _ _ hi2).lt hp2;rw [hm.new];omega
  ·rename_i hne;rw [hold (Ne.symm hne)] at hp;obtain ⟨s1,s2,s3⟩:=h.sep _ _ _ hi hp;refine ⟨s1,s2,fun id2 ob2 p2 hne2 hi2 hp2=> ?_⟩;simp only [yB] at hi2;split at hi2
   ·rename_i e;subst e;rw [hlast] at hp2;cases hp2;have:=(h.mem.ob _ _ hi).lt hp;rw [hm.new];omega
   ·rename_i hne';rw [hold (Ne.symm hne')] at hp2;exact s3 _ _ _ hne2 hi2 hp2
theorem GG.reviveQ (h:GG B I M st tmps w) {id:Nat} (hdd:M[id]? =some dead) {e:ETy} {u:TypeId} {xs:List e.T} {q:Option Bk} (ho:zAt I [q] w 0 (.row e u xs))
 (hs: ∀ p,q=some p->I p.b=none/\B.w.heap.size<=p.b/\∀ id ob p',hget st.hp id=some ob->M[id]? =some (some p')->p'.b≠p.b) :
 GG B I (M.set id q) {st with hp:=(id,.row e u xs)::st.hp} tmps w:=by
 have hid:id<M.length:=(zG.1 hdd).1;have hlast:(M.set id q)[id]? =some q:=by simp [hid]
 have hold: ∀ {i:Nat},i≠id->(M.set id q)[i]? =M[i]? :=fun hi=>qP (Ne.symm hi);refine ⟨⟨h.mem.ag,fun id' ob' hi=> ?_⟩,fun t=>(h.env t).map fun _ _=>y7.revive hdd _,by simp [h.len],fun id' ob' p hi hp=> ?_,h.bel,h.grew⟩
 ·simp only [yB] at hi;split at hi
  ·rename_i e;subst e;cases hi;exact ho.move (by rw [hlast];rfl)
  ·rename_i hne;exact (h.mem.ob _ _ hi).revive hdd (Ne.symm hne) _ (fun p hp=>rfl) fun b o e=>rfl
 ·simp only [yB] at hi;split at hi
  ·rename_i e;subst e;rw [hlast] at hp;have hq:=Option.some.inj hp;obtain ⟨s1,s2,s3⟩:=hs p hq;refine ⟨s1,s2,fun id2 ob2 p2 hne hi2 hp2=> ?_⟩;simp only [yB] at hi2;rw [if_neg (Ne.symm hne)] at hi2;rw [hold hne] at hp2;exact s3 _ _ _ hi2 hp2
  ·rename_i hne;rw [hold (Ne.symm hne)] at hp;obtain ⟨s1,s2,s3⟩:=h.sep _ _ _ hi hp;refine ⟨s1,s2,fun id2 ob2 p2 hne2 hi2 hp2=> ?_⟩;simp only [yB] at hi2;split at hi2
   ·rename_i e;subst e;rw [hlast] at hp2;exact fun e=>(hs p2 (Option.some.inj hp2)).2.2 _ _ _ hi hp e.symm
   ·rename_i hne';rw [hold (Ne.symm hne')] at hp2;exact s3 _ _ _ hne2 hi2 hp2
theorem zJk {hp:zAG} : ∀ {l:List AV} {ds:List Value},l.all AV.clear=true->jL I M l ds->jL I [] l ds
 | [],[],_,_=>trivial
 | [],_::_,_,h=>h.elim
 | _::_,[],_,h=>h.elim
 | a::l,d::ds,h,hr=>by
   simp only [qS,zA] at h;exact ⟨(AV.clear_repT (T:=⟨[],[],[]⟩) (hp:=hp) h.1 hr.1).2,zJk (hp:=hp) h.2 hr.2⟩
theorem zIi {op:Op} {ev:Operand->AV} {q:Option Prop} {ob:Ob} {ref:Nat->AS} (hm:zEv T op ev=some (q,ob,ref)) :
 (∃ c f g n,∃ (e:ETy) (u:TypeId) (xs:List e.T),op= .call c/\c.callee= .value (.func f)/\zEt T.fr f=some (.res g)/\(c.args.toList.map ev).all AV.clear=true/\g (c.args.toList.map ev)=some (none,q,.s (.own 0 0 n),[.row e u xs])/\ob= .row e u xs/\ref=fun i=> .own i 0 n)\/
 (∃ c t,∃ (e:ETy) (u:TypeId) (ui:TI) (ys:List e.T),op= .call c/\c.callee= .builtin .append/\c.args.toList.map ev=[.s (.emp e),.s (.sl e ys)]/\c.argTypes.toList=[t,t]/\T.desc t= .slice u/\T.info u=some ui/\ui.bytes≠0/\ui.size=e.size/\ui.size≠0/\q=some ((ys.length:Int)*ui.bytes<=140737488355328)/\ob= .row e u ys/\ref=fun i=> .own i 0 ys.length):=by
 unfold zEv at hm;split at hm
 case h_2=>cases hm
 rename_i c;split at hm
 case h_3=>cases hm
 ·left;rename_i f hf;split at hm
  case h_2=>cases hm
  rename_i g hg;split at hm
  case h_2=>cases hm
  rename_i n q' e u xs h1 h2;cases hm;exact ⟨_,_,_,_,_,_,_,rfl,hf,hg,h1,h2,rfl,rfl⟩
 ·right;rename_i hcal;split at hm
  case h_2=>cases hm
  rename_i e e' ys t t' hargs hts;split at hm
  case h_2=>cases hm
  rename_i u htt hdc;split at hm
  case h_2=>cases hm
  rename_i hee ui hdec hui;subst hee;split at hm
  case h_2=>cases hm
  rename_i hbz hsz hsz0;cases hm;obtain rfl:=zC htt;exact ⟨c,t,_,u,ui,ys,rfl,hcal,hargs,hts,hdc,hui,(by intro k;rw [k] at hbz;cases hbz),zC hsz,(by intro k;rw [k] at hsz0;cases hsz0),rfl,rfl,rfl⟩
variable {N:Nat} {a:Act} {r:Option Nat} {n:Nat} {ops:Array Oper} {Q:Exit->Act->World->Prop}
def zFC (T:Tab) (o:Oper) (s s':St):Prop :=
 (jN o.op=true/\∃ p q v,zAh T o.op (jW s.env) s.hp=some (p,q,v)/\Opt q/\s'=s.put o.dst v)\/
 (zVo o.op=true/\∃ q ob ref,zLd T o.op (jW s.env)=some (q,ob,ref)/\Opt q/\s'=s.mk' o.dst ob ref)\/
 (∃ q ob ref,zEv T o.op (jW s.env)=some (q,ob,ref)/\Opt q/\s'=s.mk' o.dst ob ref)
theorem zUX {s s':St} {p q:Option Prop} (hm:zVo o.op=true) (h:zCR T true o s=some (p,q,s')): ∃ ob ref,zLd T o.op (jW s.env)=some (q,ob,ref)/\p=none/\s'=s.mk' o.dst ob ref:=by
 have hcs:zAJ T o s=none:=by
  unfold zAJ
  have:zAh T o.op (jW s.env) s.hp=none:=by
   obtain ⟨dst,op,type,pos,after,guard⟩:=o;cases op<;>first|rfl|cases hm
  rw [this]
 unfold zCR at h;simp only [hcs] at h;have h:=zJU h;cases hk:zLd T o.op (jW s.env) with
 | some x =>
   obtain ⟨q0,ob,ref⟩:=x;rw [zTS hk] at h;cases h;exact ⟨ob,ref,rfl,rfl,rfl⟩
 | none =>
   exfalso;obtain ⟨dst,op,type,pos,after,guard⟩:=o;change zVo op=true at hm;change zLd T op (jW s.env)=none at hk;cases op
   case alloc t _ =>
    simp only [zEq] at h;simp only [zLd] at hk;split at h
    ·rename_i ti hti;simp [hti] at hk
    ·cases h
   case box t x _ =>
    simp only [zEq] at h;simp only [zLd] at hk;split at h
    ·rename_i cs hcs;simp [hcs] at hk
    ·cases h
   case makeMap t c _ =>
    cases c with
    | some c=>cases hm
    | none =>
      simp only [zEq] at h;simp only [zLd] at hk;simp only [zFs] at h;split at h
      ·rename_i k v hd;simp only [hd] at hk;split at h
       ·rename_i ki vi h1 h2;simp only [h1,h2] at hk;split at h
        ·rename_i ek e h3 h4;simp [h3,h4] at hk
        ·rename_i ek ev hno h3 h4;rw [h3,h4] at hk;split at hk
         ·cases hk
         ·cases hk
         ·rename_i hx;exact hx _ _ rfl rfl
        ·cases h
       ·cases h
      ·cases h
   case makeSlice t l c _ =>
    simp only [zEq] at h;simp only [zLd] at hk;simp only [zDY] at h;split at h
    ·rename_i u n cc hd h1 h2;simp only [hd,h1,h2] at hk;split at h
     ·rename_i ui hui;simp only [hui] at hk;split at h
      ·rename_i e he;simp only [he] at hk;split at h
       ·rename_i hb;simp [hb] at hk
       ·cases h
      ·rename_i e hno he;rw [he] at hk;split at h
       ·rename_i hb;split at hk
        ·simp [hb] at hk
        ·simp [hb] at hk
        ·rename_i e1;cases e1
       ·cases h
      ·cases h
     ·cases h
    ·cases h
   all_goals cases hm
theorem zNI (R:zAS P T) {K:St->Prop} (rest:List Oper): ∀ (l:List Oper) {st:St} {a:Act} {w:World},(∀ o∈l,y4 N o=true/\o.guard=none/\(jN o.op|| zVo o.op)=true)->GA B N st a w->zBj T true ops (l++rest) st K->
 ∃ S:Nat->St,S 0=st/\(∀ i o,l[i]? =some o->zFC T o (S i) (S (i+1)))/\(∀ i,i<=l.length->∃ a w,GA B N (S i) a w)/\zBj T true ops rest (S l.length) K
 | [],st,a,w,_,h,hk=>⟨fun _=>st,rfl,fun i o e=>by simp at e,fun _ _=>⟨a,w,h⟩,hk⟩
 | o :: l, st,a,w,hall,h,hk=>by
   obtain ⟨ho,hg,hc⟩:=hall o (by simp);simp only [zCZ,zBj,hg,aop,zRM,St.force_eq] at hk
   have go : ∀ {p q:Option Prop} {st':St},zCR T true o st=some (p,q,st')->Opt q->zBj T true ops (l++rest) st' K->
    ∃ S:Nat->St,S 0=st/\(∀ i o',(o::l)[i]? =some o'->zFC T o' (S i) (S (i+1)))/\(∀ i,i<=(o::l).length->∃ a w,GA B N (S i) a w)/\zBj T true ops rest (S (o::l).length) K:=by
    intro p q st' hs hq hk;obtain ⟨a',w',h'⟩:=zC9 (r:=none) (n:=0) ((zCy R h ho hs).2 hq (K:=fun a' w'=>GA B N st' a' w') fun _ _ hh=>hh);obtain ⟨S,s0,s1,s2,s3⟩:=zNI R rest l (fun o' ho'=>hall o' (by simp [ho'])) h' hk
    have step:zFC T o st st':=by
     rw [yO] at hc;rcases hc with hc|hc
     ·refine .inl ⟨hc,?_⟩;unfold zCR at hs;simp only at hs;cases hcs:zAJ T o st with
      | none=>rw [hcs] at hs;simp only at hs;rw [zF4 hc hcs] at hs;cases hs
      | some res =>
        rw [hcs] at hs;simp only at hs;cases hs;unfold zAJ at hcs;split at hcs
        ·rename_i p' q' v hv;cases hcs;exact ⟨_,_,_,hv,hq,rfl⟩
        ·cases hcs
     ·obtain ⟨ob,ref,e1,e2,e3⟩:=zUX hc hs;exact .inr (.inl ⟨hc,q,ob,ref,e1,hq,e3⟩)
    refine ⟨fun i=>match i with|0=>st|i+1=>S i,rfl,fun i o' e=> ?_,fun i hi=> ?_,s3⟩
    ·cases i with
     | zero=>simp at e;subst e;show zFC T o st (S 0);rw [s0];exact step
     | succ i=>exact s1 i o' (by simpa using e)
    ·cases i with
     | zero=>exact ⟨a,w,h⟩
     | succ i=>exact s2 i (by simpa using hi)
   split at hk
   ·rename_i st' hs;exact go hs trivial hk
   ·rename_i p st' hs;exact go hs trivial (hk.out (zCy (r:=none) (n:=0) R h ho hs).1)
   ·rename_i q st' hs;obtain ⟨k1,k2⟩:=hk.out;exact go hs k1 k2
   ·rename_i p q st' hs;obtain ⟨k1,k2⟩:=(hk.out (zCy (r:=none) (n:=0) R h ho hs).1).out;exact go hs k1 k2
   ·exact hk.elim
structure Ssa (ops:Array Oper) (k:Nat):Prop where
 get: ∀ i,i<k->∃ o d,ops[i]? =some o/\o.guard=none/\o.dst=some d/\(jN o.op|| zVo o.op|| z8v o.op)=true/\∀ e∈o.after,Region.binds .any e=true->e.on<i
 one: ∀ i j o oj d,i<k->j<k->ops[i]? =some o->ops[j]? =some oj->o.dst=some d->oj.dst=some d->j=i
 reads: ∀ i j o oj d,i<k->j<k->ops[i]? =some o->ops[j]? =some oj->oj.dst=some d->.tmp d∈o.op.operands->j<i/\zDN ops i j=true
theorem z06 {ap:Bool} {k:Nat} (h:(List.range k).all (zRZ ap ops k)=true):Ssa ops k:=by
 have key: ∀ i,i<k->zRZ ap ops k i=true:=fun i hi=>zO.1 h i (zW.2 hi)
 have inner: ∀ i j o oj d,i<k->j<k->ops[i]? =some o->ops[j]? =some oj->oj.dst=some d->(Nat.beq j i|| !(o.dst==some d))=true/\(!(zKY o).contains d|| (Nat.blt j i&&zDN ops i j))=true:=by
  intro i j o oj d hi hj ho hoj hd;have h1:=key i hi;unfold zRZ at h1;rw [ho] at h1;simp only [zA] at h1;have h2:=zO.1 h1.2 j (zW.2 hj);rw [hoj] at h2;simp only [hd,zA] at h2;exact h2
 refine ⟨fun i hi=> ?_,fun i j o oj d hi hj ho hoj hd hd'=> ?_,fun i j o oj d hi hj ho hoj hd hx=> ?_⟩
 ·have h1:=key i hi;unfold zRZ at h1;split at h1
  ·rename_i o ho;simp only [zA] at h1;obtain ⟨⟨⟨⟨h2,h3⟩,h4⟩,h5⟩,_⟩:=h1;obtain ⟨d,hd⟩:=zBP.1 h3;refine ⟨o,d,ho,by simpa using h2,hd,?_,fun e he hb=> ?_⟩
   ·cases ap with
    | true=>simpa using h4
    | false=>simp only [Bool.false_and,Bool.or_false] at h4;rw [h4];rfl
   have:=zO.1 h5 e (by simpa using he);rw [hb] at this;simp only [Bool.not_true,Bool.false_or] at this;exact zCL this
  ·cases h1
 ·have:=(inner i j o oj d hi hj ho hoj hd').1;rw [hd] at this;simp at this;exact this
 ·have:=(inner i j o oj d hi hj ho hoj hd).2
  have hm:(zKY o).contains d=true:=by
   simp only [List.contains_iff_mem,zKY,List.mem_filterMap];exact ⟨_,by simpa using hx,rfl⟩
  rw [hm] at this;simp only [Bool.not_true,Bool.false_or,zA] at this;exact ⟨zCL this.1,this.2⟩
structure Run (T:Tab) (B:Base) (N:Nat) (ops:Array Oper) (k:Nat) (S:Nat->St):Prop where
 step: ∀ i o,i<k->ops[i]? =some o->zFC T o (S i) (S (i+1))
 real: ∀ i,i<=k->∃ (a:Act) (w:World),GA B N (S i) a w
def MkI (S:Nat->St) (k i:Nat):Prop:=i<k/\(S (i+1)).next=(S i).next+1
theorem zFC.heap {s s':St} (h:zFC T o s s'):(s'.hp=s.hp/\s'.next=s.next)\/(∃ ob,s'.hp=(s.next,ob)::s.hp/\s'.next=s.next+1):=by
 have mk: ∀ {ob:Ob} {ref:Nat->AS},∃ ob',(s.mk' o.dst ob ref).hp=(s.next,ob')::s.hp/\(s.mk' o.dst ob ref).next=s.next+1:=fun {ob ref} =>⟨ob,by unfold St.mk';cases o.dst<;>rfl,by unfold St.mk';cases o.dst<;>rfl⟩
 rcases h with ⟨hc,p,q,v,_,_,rfl⟩|⟨hm,q,ob,ref,_,_,rfl⟩|⟨q,ob,ref,_,_,rfl⟩
 ·exact .inl ⟨by cases o.dst<;>rfl,by cases o.dst<;>rfl⟩
 ·exact .inr mk
 ·exact .inr mk
theorem zFC.env {s s':St} (h:zFC T o s s') {t:Tmp} (ht:o.dst≠some t):qQ s'.env t=qQ s.env t:=by
 have put: ∀ (st:St) (v:AV),qQ (st.put o.dst v).env t=qQ st.env t:=fun st v=>by
  cases hd:o.dst with
  | none=>rfl
  | some d =>
    show qQ ((d,v)::st.env) t=_;rw [j8,if_neg (by rintro rfl;exact ht hd)]
 rcases h with ⟨_,p,q,v,_,_,rfl⟩|⟨_,q,ob,ref,_,_,rfl⟩|⟨q,ob,ref,_,_,rfl⟩
 ·exact put _ _
 ·unfold St.mk';rw [put]
 ·unfold St.mk';rw [put]
variable {k:Nat} {S:Nat->St}
theorem Run.keep (hS:Run T B N ops k S) (hO:Ssa ops k) (i:Nat): ∀ d,i+d<=k->(S i).next<=(S (i+d)).next/\∀ id,id<(S i).next->hget (S (i+d)).hp id=hget (S i).hp id
 | 0,_=>⟨zI _,fun _ _=>rfl⟩
 | d +1,h=>by
   obtain ⟨h1,h2⟩:=Run.keep hS hO i d (by omega);obtain ⟨o,dd,ho,_⟩:=hO.get (i+d) (by omega);rcases (hS.step (i+d) o (by omega) ho).heap with ⟨e1,e2⟩|⟨ob,e1,e2⟩
   ·refine ⟨by show _<=(S (i+d+1)).next;rw [e2];exact h1,fun id hid=> ?_⟩;show hget (S (i+d+1)).hp id=_;rw [e1];exact h2 id hid
   ·refine ⟨by show _<=(S (i+d+1)).next;rw [e2];omega,fun id hid=> ?_⟩;show hget (S (i+d+1)).hp id=_;rw [e1,yB,if_neg (by omega)];exact h2 id hid
theorem Run.keep' (hS:Run T B N ops k S) (hO:Ssa ops k) {i j:Nat} (h:i<=j) (hj:j<=k):(S i).next<=(S j).next/\∀ id,id<(S i).next->hget (S j).hp id=hget (S i).hp id:=by
 have:=hS.keep hO i (j - i) (by omega);rwa [show i+(j - i)=j by omega] at this
theorem Run.env (hS:Run T B N ops k S) (hO:Ssa ops k) {t:Tmp} (i:Nat): ∀ d,i+d<=k->(∀ j o,i<=j->j<i+d->ops[j]? =some o->o.dst≠some t)->qQ (S (i+d)).env t=qQ (S i).env t
 | 0,_,_=>rfl
 | d+1,h,hn=>by
   obtain ⟨o,dd,ho,_⟩:=hO.get (i+d) (by omega);show qQ (S (i+d+1)).env t=_;rw [(hS.step (i+d) o (by omega) ho).env (hn (i+d) o (by omega) (by omega) ho)];exact Run.env hS hO i d (by omega) fun j o h1 h2=>hn j o h1 (by omega)
theorem Run.env' (hS:Run T B N ops k S) (hO:Ssa ops k) {t:Tmp} {i j:Nat} (h:i<=j) (hj:j<=k) (hn: ∀ m o,i<=m->m<j->ops[m]? =some o->o.dst≠some t):qQ (S j).env t=qQ (S i).env t:=by
 have:=hS.env hO (t:=t) i (j - i) (by omega) (fun m o h1 h2=>hn m o h1 (by omega));rwa [show i+(j - i)=j by omega] at this
theorem Run.whose (hS:Run T B N ops k S) (hO:Ssa ops k): ∀ j,j<=k->∀ id,id<(S j).next->id<(S 0).next\/∃ i,i<j/\MkI S k i/\id=(S i).next
 | 0,_,id,h=> .inl h
 | j + 1,hj,id,h=>by
   obtain ⟨o,dd,ho,_⟩:=hO.get j (by omega);rcases (hS.step j o (by omega) ho).heap with ⟨e1,e2⟩|⟨ob,e1,e2⟩
   ·rw [e2] at h;rcases Run.whose hS hO j (by omega) id h with h|⟨i,h1,h2,h3⟩
    ·exact .inl h
    ·exact .inr ⟨i,by omega,h2,h3⟩
   ·rw [e2] at h
    by_cases e:id=(S j).next
    ·exact .inr ⟨j,by omega,⟨by omega,e2⟩,e⟩
    ·rcases Run.whose hS hO j (by omega) id (by omega) with h|⟨i,h1,h2,h3⟩
     ·exact .inl h
     ·exact .inr ⟨i,by omega,h2,h3⟩
theorem Run.lt (hS:Run T B N ops k S) (hO:Ssa ops k) {i j:Nat} (hi:MkI S k i) (h:i<j) (hj:j<=k):(S i).next<(S j).next:=by
 obtain ⟨hik,e2⟩:=hi;have:=(hS.keep' hO (i:=i+1) (j:=j) (by omega) hj).1;omega
structure RD (B:Base) (N:Nat) (ops:Array Oper) (k:Nat) (S:Nat->St) (listed:Array Bool) (a:Act) (w:World) (env:Env) (hp':zAG) (M:yN):Prop where
 gb:GB B N M ⟨env,hp',(S k).next⟩ a w
 done: ∀ i o d,i<k->ops[i]? =some o->o.dst=some d->listed.getD i true=true->qQ env d=qQ (S k).env d
 was: ∀ t,(∀ i o,i<k->ops[i]? =some o->o.dst=some t->listed.getD i true=false)->qQ env t=qQ (S 0).env t
 old: ∀ id,id<(S 0).next->hget hp' id=hget (S 0).hp id
 made: ∀ i,MkI S k i->listed.getD i true=true->hget hp' (S i).next=hget (S k).hp (S i).next
 wait: ∀ i,MkI S k i->listed.getD i true=false->M[(S i).next]? =some dead
 none: ∀ id,(∀ ob,hget (S k).hp id≠some ob)->hget hp' id=Option.none
 nob: ∀ i,MkI S k i->listed.getD i true=false->hget hp' (S i).next=Option.none
def AS.notId (id:Nat):AS->Prop
 | .own i _ _=>i≠id
 | .ptr i _ _=>i≠id
 | .pti i _ _=>i≠id
 | .omp i=>i≠id
 | .arr i _=>i≠id
 | _=>True
theorem zFn {id:Nat} (hdd:M[id]? =some dead) {a:AS} {v:Value} (h:y7 I M a v):a.notId id:=by
 cases a with
 | own i s n =>
   rintro rfl;simp only [y7] at h;rw [hdd] at h;simp only [dead] at h;obtain ⟨a,cap,_,_,_,h1,_⟩:=h;omega
 | ptr i j k =>
   rintro rfl;obtain ⟨p,e,r,hl⟩:=h;rw [hdd] at e;cases e;exact absurd hl (by simp)
 | pti i j k =>
   rintro rfl;obtain ⟨p,e,r,hl,hs⟩:=h;rw [hdd] at e;cases e;exact absurd hl (by simp)
 | omp i =>
   rintro rfl;obtain ⟨p,e,r,hl⟩:=h;rw [hdd] at e;cases e;exact absurd hl (by simp)
 | arr i n =>
   rintro rfl;obtain ⟨p,e,r,hl,hs⟩:=h;rw [hdd] at e;cases e;exact absurd hs (by simp)
 | _=>trivial
theorem zXj {Pr:Nat->Bool} {m:Nat} (hPr: ∀ id,id<m->id<M.length->M[id]? ≠some dead->Pr id=true) {a:AS} {v:Value} (h:y7 I M a v) (hm:a.idsBelow m=true):a.okP Pr=true:=by
 have hl:=h.low;cases a with
 | own i s n=>exact hPr i (zCL hm) (zCL hl) fun e=>zFn e h rfl
 | ptr i j k=>exact hPr i (zCL hm) (zCL hl) fun e=>zFn e h rfl
 | pti i j k=>exact hPr i (zCL hm) (zCL hl) fun e=>zFn e h rfl
 | omp i=>exact hPr i (zCL hm) (zCL hl) fun e=>zFn e h rfl
 | arr i n=>exact hPr i (zCL hm) (zCL hl) fun e=>zFn e h rfl
 | _=>rfl
theorem zGh {Pr:Nat->Bool} {m:Nat} (hPr: ∀ id,id<m->id<M.length->M[id]? ≠some dead->Pr id=true): ∀ {l:List AS} {ds:List Value},jZ (y7 I M) l ds->l.all (AS.idsBelow m)=true->l.all (AS.okP Pr)=true
 | [],[],_,_=>rfl
 | a::l,d::ds,h,hm=>by
   simp only [qS,zA] at hm ⊢;exact ⟨zXj hPr h.1 hm.1,zGh hPr h.2 hm.2⟩
 | [],_::_,h,_=>h.elim
 | _::_,[],h,_=>h.elim
theorem zTv {Pr:Nat->Bool} {m:Nat} (hPr: ∀ id,id<m->id<M.length->M[id]? ≠some dead->Pr id=true) {a:AV} {v:Value} (h:qA I M a v) (hm:a.low m):a.okP Pr:=by
 cases a with
 | s a=>exact zXj hPr h hm
 | agg l=>obtain ⟨ds,_,r⟩:=h;exact zGh hPr r hm
 | tup l=>trivial
theorem zQa {op:Op} {ev ev':Operand->AV} (h: ∀ x∈op.operands,ev x=ev' x):zLd T op ev=zLd T op ev':=by
 cases op<;>first|rfl|skip
 case box t x=>simp only [zLd];rw [h x (by simp [Op.operands])]
 case makeMap t x=>cases x<;>rfl
 case makeSlice t l c=>simp only [zLd];rw [h l (by simp [Op.operands]),h c (by simp [Op.operands])]
theorem zOw {l:Array Bool} {i:Nat} (h:l.getD i false=true):l.getD i true=true:=by
 rcases Nat.lt_or_ge i l.size with h'|h'
 ·simpa [zK,h'] using h
 ·simp [zK,yX h']
theorem zMG {op:Op} {ev ev':Operand->AV} (h: ∀ x∈op.operands,ev x=ev' x):zEv T op ev=zEv T op ev':=by
 cases op<;>first|rfl|skip
 case call c =>
  have:c.args.toList.map ev=c.args.toList.map ev':=zAQ fun x hx=>h x (by
   simp [Op.operands,Call.operands];right;simpa using hx)
  simp only [zEv,this]
theorem z8s (R:zAS P T) {env:Env} {hp:zAG} {nx:Nat} (h:GB B N M ⟨env,hp,nx⟩ a w) {o:Oper} (ho:y4 N o=true) {id:Nat} (hdd:M[id]? =some dead) {q:Option Prop} {ob:Ob} {ref:Nat->AS}
 (hm: ∃ c t,∃ (e:ETy) (u:TypeId) (ui:TI) (ys:List e.T),o.op= .call c/\c.callee= .builtin .append/\c.args.toList.map (jW env)=[.s (.emp e),.s (.sl e ys)]/\c.argTypes.toList=[t,t]/\T.desc t= .slice u/\T.info u=some ui/\ui.bytes≠0/\ui.size=e.size/\ui.size≠0/\q=some ((ys.length:Int)*ui.bytes<=140737488355328)/\ob= .row e u ys/\ref=fun i=> .own i 0 ys.length)
 (hq:Opt q) {K:Act->World->Prop} {Q:Exit->Act->World->Prop} (hK: ∀ a' w' q',GB B N (M.set id q') ((⟨env,(id,ob)::hp,nx⟩:St).put o.dst (.s (ref id))) a' w'->K a' w'):o.wpIn (FR r) n P a w K Q:=by
 obtain ⟨c,t,e,u,ui,ys,h1,h2,h3,h4,hdc,hui,hbz,hsz,hsz0,rfl,rfl,rfl⟩:=hm;obtain ⟨I,hg⟩:=h.gg;have hd:=zAp h.size ho
 have hops: ∀ x∈o.op.operands,qA I M (jW env x) (a.eval x):=fun x hx=>by
  simp only [y4,zA,zO] at ho;exact jY hg (ho.2 x (by simpa using hx))
 obtain ⟨callee,args,ts⟩:=c;change callee=_ at h2;change args.toList.map (jW env)=_ at h3;change ts.toList=_ at h4;subst h2
 obtain ⟨x,y,hxy⟩: ∃ x y,args.toList=[x,y]:=by
  have hl:=congrArg List.length h3;rw [z2] at hl
  match args.toList,hl with
  | [x,y],_=>exact ⟨x,y,rfl⟩
 have hargs:args= #[x,y]:=by rw [<- Array.toArray_toList (xs:=args),hxy]
 subst hargs;have htt:ts= #[t,t]:=by rw [<- Array.toArray_toList (xs:=ts),h4]
 subst htt;simp only [jV,List.map_nil,List.cons.injEq,and_true] at h3;obtain ⟨hxe,hye⟩:=h3;have nodefer: ∀ c,o.op≠.defer c:=by intro c e;rw [h1] at e;cases e
 have rx:=hops x (by simp [h1,Op.operands,Call.operands]);have ry:=hops y (by simp [h1,Op.operands,Call.operands]);rw [hxe] at rx;rw [hye] at ry;have hreq:(ys.length:Int)*ui.bytes<=140737488355328:=hq;have hid:id<M.length:=(zG.1 hdd).1;have hT:=R.ty;obtain ⟨i,z,hi,hsi,hbi,hzz,hzl⟩:=(hT _ _ hui).get;have hzs:z.cells.size=i.size:=by rw [hsi,<- (hT _ _ hui).zlen,<- hzl];simp
 have hund:=hT.und hdc (by simp);obtain ⟨ao,c,hy,hyl,hyc⟩:=zIG (st:=⟨env,hp,nx⟩) hg.mem ry rfl;obtain ⟨a0,hx⟩:=rx
 have hreqN:ys.length*ui.bytes<=140737488355328:=by
  have:((ys.length*ui.bytes:Nat):Int)<=140737488355328:=by push_cast;exact hreq
  omega
 have exec: ∀ {v':Value} {w':World},(Builtin.append_ #[t,t] o.type #[a.eval x,a.eval y]).run P w= .ok v' w'->(execOp a.eval o).run P w= .ok (.value v') w':=by
  intro v' w' hr;simp [execOp,h1,resolve,invoke,builtin,hr]
 have fin: ∀ {q:Option Bk} {v':Value} {w':World},(execOp a.eval o).run P w= .ok (.value v') w'->GG B I (M.set id q) ⟨env,(id,.row e u ys)::hp,nx⟩ a.tmps w'->y7 I (M.set id q) (.own id 0 ys.length) v'->o.wpIn (FR r) n P a w K Q:=by
  intro q v' w' hr hg' hv;refine ⟨fun f _=>trivial,?_⟩;rw [Oper.semAt_eq _ _ _ nodefer,hr];exact hK _ _ q (zCt h.defers h.size ⟨I,hg'.put hd hv⟩)
 have hlast: ∀ q:Option Bk,(M.set id q)[id]? =some q:=fun q=>by simp [hid]
 by_cases hye:ys=[]
 ·subst hye;refine fin (q:=none) (exec (by rw [hx,hy];exact zCg hund hi (zI 0))) (hg.reviveQ hdd ⟨by simp,by simp⟩ (fun p hp=>by cases hp)) ?_;simp only [y7];rw [hlast];simp
 ·obtain ⟨ad,rfl,dss,hd1,hd2⟩:=hyc hye;have hfl:=zAu hd1;have hpos:0<ys.length:=zAR.2 hye;have hr:=zEz (P:=P) (w:=w) (ty:=o.type) (c:=c) hund hi hzz a0 (a:=ad) (n:=ys.length) (news:=dss.flatten) (by rw [hfl,hsi,hsz]) hd2 hpos (by omega) (by rw [hbi];omega);have hge:=grownCap_ge w ys.length 0 u;have hrun:=exec (by rw [hx,hy];exact hr);have hbw:=((Below.refl w.heap.size w).drew).alloc (zI _) (.cells (dss.flatten.toArray++Builtin.zeroCells z.cells (grownCap w ys.length 0 u - ys.length)) u)
  have hold: ∀ k,k<w.heap.size->(w.drew.alloc (.cells (dss.flatten.toArray++Builtin.zeroCells z.cells (grownCap w ys.length 0 u - ys.length)) u)).heap[k]? =w.heap[k]? :=fun k hk=>Go.heap_alloc_old w.drew _ (by simpa using hk);have hw1:=hg.world (σ':=I) (Sig.le.refl I) (fun b o e=>by rw [hold b (hg.mem.ag.lt e)];exact hg.mem.ag _ _ e) (fun b _=>rfl) hbw
  have hsize:(dss.flatten.toArray++Builtin.zeroCells z.cells (grownCap w ys.length 0 u - ys.length)).size=grownCap w ys.length 0 u*e.size:=by
   simp only [Array.size_append,List.size_toArray,size_zeroCells,hzs,hfl,hsi,hsz,<- Nat.add_mul]
   congr 1;omega
  refine fin (q:=some ⟨w.heap.size,0,e.size,grownCap w ys.length 0 u*e.size,ys.length⟩) hrun (hw1.reviveQ hdd ⟨hyl,?_⟩ ?_) ?_
  ·refine ⟨rfl,by simp,by simp only [yK];exact yD _ hge,_,heap_alloc_new w.drew _,hsize,?_⟩;simp only [yK]
   have:=zC1 (I:=I) (look:=fun k=>(dss.flatten.toArray++Builtin.zeroCells z.cells (grownCap w ys.length 0 u - ys.length))[k]?) (k:=0) hd1 (fun j v hj=>by
    rw [yK,Array.getElem?_append_left (by simpa using (zG.1 hj).1)];simpa using hj)
   simpa using this
  ·rintro p ⟨⟩;refine ⟨?_,hg.bel.size,fun id' ob' p' hi' hp'=> ?_⟩
   ·cases hs:I w.heap.size with
    | none=>rfl
    | some b=>exact absurd (hg.mem.ag.lt hs) (Nat.lt_irrefl _)
   ·have:=(hg.mem.ob _ _ hi').lt hp';show p'.b≠w.heap.size;omega
  ·simp only [y7];rw [hlast];exact ⟨_,_,rfl,by simpa using hge,.inr (by simp),by simp,by simp⟩
theorem zVp (R:zAS P T) {env:Env} {hp:zAG} {nx:Nat} (h:GB B N M ⟨env,hp,nx⟩ a w) {o:Oper} (ho:y4 N o=true) {id:Nat} (hdd:M[id]? =some dead) {q:Option Prop} {ob:Ob} {ref:Nat->AS}
 (hm:zEv T o.op (jW env)=some (q,ob,ref)) (hq:Opt q) {K:Act->World->Prop} {Q:Exit->Act->World->Prop} (hK: ∀ a' w' q',GB B N (M.set id q') ((⟨env,(id,ob)::hp,nx⟩:St).put o.dst (.s (ref id))) a' w'->K a' w'):o.wpIn (FR r) n P a w K Q:=by
 obtain ⟨I,hg⟩:=h.gg;rcases zIi hm with hc|hc
 case inr=>exact z8s R h ho hdd hc hq hK
 obtain ⟨c,f,g,m,e,u,xs,h1,h2,h3,h4,h5,rfl,rfl⟩:=hc;have hd:=zAp h.size ho
 have hops: ∀ x∈o.op.operands,qA I M (jW env x) (a.eval x):=fun x hx=>by
  simp only [y4,zA,zO] at ho;exact jY hg (ho.2 x (by simpa using hx))
 obtain ⟨callee,args,ts⟩:=c;change callee=_ at h2;subst h2;have nodefer: ∀ c,o.op≠.defer c:=by intro c e;rw [h1] at e;cases e
 have hargs:jL I M (args.toList.map (jW env)) (args.toList.map a.eval):=zC2 fun x hx=>hops x (by simp [h1,Op.operands,Call.operands];right;simpa using hx);obtain ⟨fn,k3,k4,k5⟩:=R.fr.fn _ _ h3;have hcalls:=(R.fr.ok _ _ h3 _ _ h5 I _ w hg.mem.ag (zJk (hp:=hp) h4 hargs)).2 hq;refine ⟨fun f _=>trivial,?_⟩;rw [Oper.semAt_eq _ _ _ nodefer,zGB (ρ:=a.eval) h1 rfl k3 k4 k5];refine ⟨(fun e=>by cases e),?_⟩;have e1:(args.toList.map a.eval).toArray=args.map a.eval:=by rw [<- Array.toList_map]
 rw [e1] at hcalls;refine (zCY r _ hcalls).mono fun en w' ⟨v,σ',β',e1,e2,e3,e4,e5,e6,e7⟩=> ?_;subst e1
 match β',e6 with
 | [q'],e6 =>
   obtain ⟨_,f2,f3,_⟩:=e6
   have hg1:=(hg.world e2 e3 e4 e7).reviveQ hdd f2 fun p hp=>⟨(f3 p hp).1,qT hg.bel.size (f3 p hp).2.1,fun id' ob' p' hi hp'=>by
    have:=(hg.mem.ob _ _ hi).lt hp';have:=(f3 p hp).2.1
    omega⟩
   refine hK _ _ q' (zCt h.defers h.size ⟨σ',hg1.put hd ?_⟩);have hid:id<M.length:=(zG.1 hdd).1;have hlast:(M.set id q')[id]? =some q':=by simp [hid]
   have e5:y7 σ' [q'] (.own 0 0 m) v:=e5;show y7 σ' (M.set id q') (.own id 0 m) v;simp only [y7,hlast];simp only [y7] at e5;exact e5
theorem zJu (R:zAS P T) {K:St->Prop} (rest:List Oper): ∀ (l:List Oper) {st:St} {a:Act} {w:World},(∀ o∈l,y4 N o=true/\o.guard=none/\(jN o.op|| zVo o.op|| z8v o.op)=true)->GA B N st a w->zIA T ops l.length (l++rest) st K->
 ∃ S:Nat->St,S 0=st/\(∀ i o,l[i]? =some o->zFC T o (S i) (S (i+1)))/\(∀ i,i<=l.length->∃ a w,GA B N (S i) a w)/\zBj T true ops rest (S l.length) K
 | [],st,a,w,_,h,hk=>⟨fun _=>st,rfl,fun i o e=>by simp at e,fun _ _=>⟨a,w,h⟩,by
     unfold zIA at hk
     exact hk⟩
 | o :: l, st,a,w,hall,h,hk=>by
   obtain ⟨ho,hg,hc⟩:=hall o (by simp)
   have go: ∀ {st':St},zFC T o st st'->(∃ a' w',GA B N st' a' w')->zIA T ops l.length (l++rest) st' K->
    ∃ S:Nat->St,S 0=st/\(∀ i o',(o::l)[i]? =some o'->zFC T o' (S i) (S (i+1)))/\(∀ i,i<=(o::l).length->∃ a w,GA B N (S i) a w)/\zBj T true ops rest (S (o::l).length) K:=by
    intro st' step hs hk;obtain ⟨a',w',h'⟩:=hs;obtain ⟨S,s0,s1,s2,s3⟩:=zJu R rest l (fun o' ho'=>hall o' (by simp [ho'])) h' hk;refine ⟨fun i=>match i with|0=>st|i+1=>S i,rfl,fun i o' e=> ?_,fun i hi=> ?_,s3⟩
    ·cases i with
     | zero=>simp at e;subst e;show zFC T o st (S 0);rw [s0];exact step
     | succ i=>exact s1 i o' (by simpa using e)
    ·cases i with
     | zero=>exact ⟨a,w,h⟩
     | succ i=>exact s2 i (by simpa using hi)
   have real: ∀ {draw:Bool} {p q:Option Prop} {st':St},zCR T draw o st=some (p,q,st')->Opt q->∃ a' w',GA B N st' a' w':=fun hs hq =>
    zC9 (r:=none) (n:=0) ((zCy R h ho hs).2 hq (K:=fun a' w'=>GA B N _ a' w') fun _ _ hh=>hh)
   simp only [zZ,zCZ,zIA,zRM,St.force_eq] at hk;cases hm:zEv T o.op (jW st.env) with
   | some res =>
     obtain ⟨q,ob,ref⟩:=res;rw [hm] at hk
     have hreal:Opt q->∃ a' w',GA B N (st.mk' o.dst ob ref) a' w':=fun hq=>by
      obtain ⟨env,hp,nx⟩:=st;obtain ⟨I,M,hg⟩:=h.gg;obtain ⟨β',hg',hfree⟩:=hg.frees 1;have hgb:GB B N β' ⟨env,hp,nx+1⟩ a w:=⟨h.defers,h.size,I,hg'⟩
      exact zC9 (r:=none) (n:=0) (zVp R hgb ho (id:=nx) (by simpa using hfree 0 (by omega)) hm hq (K:=fun a' w'=>GA B N (St.mk' ⟨env,hp,nx⟩ o.dst ob ref) a' w') fun a' w' q' hh=>by
       obtain ⟨σ2,hh2⟩:=hh.gg
       exact ⟨hh.defers,hh.size,σ2,_,hh2⟩)
     cases q with
     | none=>exact go (.inr (.inr ⟨none,ob,ref,hm,trivial,rfl⟩)) (hreal trivial) hk
     | some q=>obtain ⟨k1,k2⟩:=hk.out;exact go (.inr (.inr ⟨some q,ob,ref,hm,k1,rfl⟩)) (hreal k1) k2
   | none =>
     rw [hm] at hk;simp only at hk;split at hk
     ·exact hk.elim
     rename_i hna;rw [hna,Bool.or_false] at hc
     have step: ∀ {p q:Option Prop} {st':St},zCR T true o st=some (p,q,st')->Opt q->zFC T o st st':=fun {p q st'} hs hq=>by
      rw [yO] at hc;rcases hc with hc|hc
      ·refine .inl ⟨hc,?_⟩;unfold zCR at hs;simp only at hs;cases hcs:zAJ T o st with
       | none=>rw [hcs] at hs;simp only at hs;rw [zF4 hc hcs] at hs;cases hs
       | some res =>
         rw [hcs] at hs;simp only at hs;cases hs;unfold zAJ at hcs;split at hcs
         ·rename_i p' q' v hv;cases hcs;exact ⟨_,_,_,hv,hq,rfl⟩
         ·cases hcs
      ·obtain ⟨ob,ref,e1,e2,e3⟩:=zUX hc hs;exact .inr (.inl ⟨hc,q,ob,ref,e1,hq,e3⟩)
     split at hk
     ·rename_i st' hs;exact go (step hs trivial) (real hs trivial) hk
     ·rename_i p st' hs;exact go (step hs trivial) (real hs trivial) (hk.out (zCy (r:=none) (n:=0) R h ho hs).1)
     ·rename_i q st' hs;obtain ⟨k1,k2⟩:=hk.out;exact go (step hs k1) (real hs k1) k2
     ·rename_i p q st' hs;obtain ⟨k1,k2⟩:=(hk.out (zCy (r:=none) (n:=0) R h ho hs).1).out;exact go (step hs k1) (real hs k1) k2
     ·exact hk.elim
open Classical in
theorem zWv (R:zAS P T) (hO:Ssa ops k) (hS:Run T B N ops k S) (hall: ∀ (i:Nat) (o:Oper),ops[i]? =some o->y4 N o=true) {listed:Array Bool} (dn:Dn ops listed) {env:Env} {hp':zAG} (hr:RD B N ops k S listed a w env hp' M)
 {i:Nat} (hi:i∈Region.ready .any ops listed) (hik:i<k) {K:Act->World->Prop} (hK: ∀ a' w' env' hp2 β',RD B N ops k S (listed.setIfInBounds i true) a' w' env' hp2 β'->K a' w'):wpOpIn (FR r) n P ops Q i K a w:=by
 obtain ⟨hun,o,ho,hedge⟩:=mem_ready.1 hi;obtain ⟨o',d,ho',hg,hd,hc,_⟩:=hO.get i hik;rw [ho] at ho';cases ho';have hop:=hall i o ho;have setne: ∀ {j:Nat},j≠i->(listed.setIfInBounds i true).getD j true=listed.getD j true:=fun {j} hne=>getD_set_ne true (Ne.symm hne);have zBZ:(listed.setIfInBounds i true).getD i true=true:=zA1;unfold wpOpIn;simp only [ho];rw [if_pos (by simp [Region.wanted,hg])]
 have hopnd: ∀ x∈o.op.operands,jW env x=jW (S i).env x:=by
  intro x hx;cases x with
  | tmp t =>
    show qQ env t=qQ (S i).env t
    by_cases hdef: ∃ j oj,j<k/\ops[j]? =some oj/\oj.dst=some t
    ·obtain ⟨j,oj,hj,hoj,hdj⟩:=hdef;obtain ⟨hji,htw⟩:=hO.reads i j o oj t hik hj ho hoj hdj hx;have hl:listed.getD j false=true:=zDd dn htw (fun o' ho'' e he hb=>by rw [ho] at ho'';cases ho'';exact hedge e he hb);rw [hr.done j oj t hj hoj hdj (zOw hl)];exact hS.env' hO (i:=i) (j:=k) (by omega) (zI _) (fun m om h1 h2 hom e=>by have:=hO.one j m oj om t hj h2 hoj hom hdj e;omega)
    ·rw [hr.was t (fun j oj hj hoj hdj=>absurd ⟨j,oj,hj,hoj,hdj⟩ hdef)];exact (hS.env' hO (i:=0) (j:=i) (by omega) (by omega) (fun m om _ h2 hom e=>hdef ⟨m,om,by omega,hom,e⟩)).symm
  | const=>rfl
  | global=>rfl
  | func=>rfl
 have hops: ∀ {I:Sig},GG B I M ⟨env,hp',(S k).next⟩ a.tmps w->∀ x∈o.op.operands,qA I M (jW env x) (a.eval x):=fun hgg x hx=>by
  simp only [y4,zA,zO] at hop;exact jY hgg (hop.2 x (by simpa using hx))
 obtain ⟨I,hgg⟩:=hr.gb.gg
 have envDone: ∀ {v:AV},qQ (S k).env d=v->∀ j oj d',j<k->ops[j]? =some oj->oj.dst=some d'->(listed.setIfInBounds i true).getD j true=true->qQ ((d,v)::env) d'=qQ (S k).env d':=by
  intro v hv j oj d' hj hoj hdj hl;rw [j8];split
  ·rename_i e;subst e;exact hv.symm
  ·rename_i hne;refine hr.done j oj d' hj hoj hdj ?_
   by_cases e:j=i
   ·subst e;rw [ho] at hoj;cases hoj;rw [hd] at hdj;cases hdj;exact (hne rfl).elim
   ·rw [<- setne e];exact hl
 have envWas: ∀ {v:AV} (t:Tmp),(∀ j oj,j<k->ops[j]? =some oj->oj.dst=some t->(listed.setIfInBounds i true).getD j true=false)->qQ ((d,v)::env) t=qQ (S 0).env t:=by
  intro v t ht;rw [j8];split
  ·rename_i e;subst e;have:=ht i o hik ho hd;rw [zBZ] at this;cases this
  ·refine hr.was t fun j oj hj hoj hdj=> ?_;have:=ht j oj hj hoj hdj
   by_cases e:j=i
   ·subst e;rw [zBZ] at this;cases this
   ·rw [<- setne e];exact this
 have hStep:=hS.step i o hik ho
 have envK: ∀ {v:AV},qQ (S (i+1)).env d=v->qQ (S k).env d=v:=fun {v} hv=>by
  rw [<- hv];exact hS.env' hO (i:=i+1) (j:=k) (by omega) (zI _) (fun m om h1 h2 hom e=>by have:=hO.one i m o om d hik h2 ho hom hd e;omega)
 rcases hStep with ⟨hcalm,p,q,v,hac,hq,hS1⟩|⟨hmk,q,ob,ref,hmo,hq,hS1⟩|⟨q,ob,ref,hmc,hq,hS1⟩
 ·-- a calm one
  obtain ⟨a0,w0,hreal⟩:=hS.real i (by omega);obtain ⟨σ0,β0,hg0⟩:=hreal.gg
  let Pr:Nat->Bool:=fun id=>decide (id<(S i).next/\M[id]? ≠some dead)
  have hPr: ∀ id,id<(S i).next->id<M.length->M[id]? ≠some dead->Pr id=true:=fun id h1 _ h2=>decide_eq_true ⟨h1,h2⟩
  have hsame:zF3 Pr (S i).hp hp':=by
   intro id hid;obtain ⟨h1,h2⟩:=of_decide_eq_true hid;rcases hS.whose hO i (by omega) id h1 with h|⟨j,hj,hmj,rfl⟩
   ·rw [hr.old id h,(hS.keep' hO (i:=0) (j:=i) (by omega) (by omega)).2 id h]
   ·have hl:listed.getD j true=true:=by
     cases hl:listed.getD j true with
     | true=>rfl
     | false=>exact absurd (hr.wait j hmj hl) h2
    rw [hr.made j hmj hl,(hS.keep' hO (i:=i) (j:=k) (by omega) (zI _)).2 _ h1]
  have hlow0: ∀ x∈o.op.operands,(jW (S i).env x).low (S i).next:=fun x hx=>by
   simp only [y4,zA,zO] at hop;have:=(jY hg0 (hop.2 x (by simpa using hx))).low;rw [hg0.len] at this;exact this
  have hokP: ∀ x∈o.op.operands,(jW (S i).env x).okP Pr:=fun x hx=>by
   rw [<- hopnd x hx];exact zTv hPr (hops hgg x hx) (by rw [hopnd x hx];exact hlow0 x hx)
  have hflat:zHz Pr (S i).hp:=by
   intro id t cs hid hgt;have h1:hget hp' id=some (.flat t cs):=by rw [hsame id hid];exact hgt
   obtain ⟨p1,_,_,_,_,_,c1,_,r1⟩:=hgg.mem.ob _ _ h1;obtain ⟨p2,_,_,_,_,_,c2,_,r2⟩:=hg0.mem.ob _ _ hgt;have:=zH8 r2;rw [hg0.len] at this;exact zGh hPr r1 this
  have hac':zAh T o.op (jW env) hp'=some (p,q,v):=by
   rw [zDe hopnd,zI3 hokP hsame hflat];exact hac
  refine (zKU R hr.gb hop hac').2 hq fun a' w' hgb=> ?_;rw [hd] at hgb
  have hv:qQ (S (i+1)).env d=v:=by
   rw [hS1,hd];show qQ ((d,v)::_) d=v;rw [j8,if_pos rfl]
  have notMk: ∀ j,MkI S k j->j≠i:=fun j hj e=>by
   subst e;have e1:(S (j+1)).next=(S j).next:=by rw [hS1];cases o.dst<;>rfl
   have:=hj.2;omega
  exact hK a' w' ((d,v)::env) hp' M ⟨hgb,envDone (envK hv),envWas,hr.old,fun j hj hl=>hr.made j hj (by rw [<- setne (notMk j hj)];exact hl),fun j hj hl=>hr.wait j hj (by rw [<- setne (notMk j hj)];exact hl),hr.none,
   fun j hj hl=>hr.nob j hj (by rw [<- setne (notMk j hj)];exact hl)⟩
 ·-- one that makes a thing
  have hmi:MkI S k i:=⟨hik,by rw [hS1];unfold St.mk';cases o.dst<;>rfl⟩;rw [<- zQa hopnd] at hmo;obtain ⟨v,w',pl,hrun,hM⟩:=zQm (I:=I) (M:=M) (w:=w) (ρ:=a.eval) R.ty R.ety (hops hgg) hmo hq;have hg':=hgg.reviveG (hr.wait i hmi hun) (zAp hr.gb.size hop) hM
  have hob:hget (S k).hp (S i).next=some ob:=by
   have e1:hget (S (i+1)).hp (S i).next=some ob:=by
    have:(S (i+1)).hp=((S i).next,ob)::(S i).hp:=by rw [hS1];unfold St.mk';cases o.dst<;>rfl
    rw [this,yB,if_pos rfl]
   rw [(hS.keep' hO (i:=i+1) (j:=k) (by omega) (zI _)).2 _ (hS.lt hO hmi (by omega) (by omega))];exact e1
  have hv:qQ (S (i+1)).env d= .s (ref (S i).next):=by
   have:(S (i+1)).env=(d,.s (ref (S i).next))::(S i).env:=by rw [hS1,hd];rfl
   rw [this,j8,if_pos rfl]
  have apart: ∀ j,MkI S k j->j≠i->(S j).next≠(S i).next:=fun j hj hne=>by
   rcases Nat.lt_or_gt_of_ne hne with h|h
   ·have:=hS.lt hO hj h (by omega);omega
   ·have:=hS.lt hO hmi h (by have:=hj.1;omega);omega
  refine ⟨fun f _=>trivial,?_⟩;rw [Oper.semAt_eq _ _ _ (by intro c e;rw [e] at hmk;cases hmk),hrun]
  have hgb:GB B N (M.set (S i).next (some pl)) ⟨(d,.s (ref (S i).next))::env,((S i).next,ob)::hp',(S k).next⟩ (a.put o.dst v) w':=by
   refine zCt hr.gb.defers hr.gb.size ⟨I,?_⟩;rw [hd] at hg' ⊢;exact hg'
  refine hK _ _ _ _ _ ⟨hgb,envDone (envK hv),envWas,fun id hid=> ?_,fun j hj hl=> ?_,fun j hj hl=> ?_,fun id hid=> ?_,fun j hj hl=> ?_⟩
  ·rw [yB,if_neg (by have:=(hS.keep' hO (i:=0) (j:=i) (by omega) (by omega)).1;omega)];exact hr.old id hid
  ·rw [yB]
   by_cases e:j=i
   ·subst e;rw [if_pos rfl,hob]
   ·rw [if_neg (Ne.symm (apart j hj e))];exact hr.made j hj (by rw [<- setne e];exact hl)
  ·have e:j≠i:=by rintro rfl;rw [zBZ] at hl;cases hl
   rw [qP (Ne.symm (apart j hj e))];exact hr.wait j hj (by rw [<- setne e];exact hl)
  ·rw [yB,if_neg (by rintro rfl;exact hid ob hob)];exact hr.none id hid
  ·have e:j≠i:=by rintro rfl;rw [zBZ] at hl;cases hl
   rw [yB,if_neg (Ne.symm (apart j hj e))];exact hr.nob j hj (by rw [<- setne e];exact hl)
 ·-- a call that hands a row over
  have hmi:MkI S k i:=⟨hik,by rw [hS1];unfold St.mk';cases o.dst<;>rfl⟩;rw [<- zMG hopnd] at hmc
  have hob:hget (S k).hp (S i).next=some ob:=by
   have e1:hget (S (i+1)).hp (S i).next=some ob:=by
    have:(S (i+1)).hp=((S i).next,ob)::(S i).hp:=by rw [hS1];unfold St.mk';cases o.dst<;>rfl
    rw [this,yB,if_pos rfl]
   rw [(hS.keep' hO (i:=i+1) (j:=k) (by omega) (zI _)).2 _ (hS.lt hO hmi (by omega) (by omega))];exact e1
  have hv:qQ (S (i+1)).env d= .s (ref (S i).next):=by
   have:(S (i+1)).env=(d,.s (ref (S i).next))::(S i).env:=by rw [hS1,hd];rfl
   rw [this,j8,if_pos rfl]
  have apart: ∀ j,MkI S k j->j≠i->(S j).next≠(S i).next:=fun j hj hne=>by
   rcases Nat.lt_or_gt_of_ne hne with h|h
   ·have:=hS.lt hO hj h (by omega);omega
   ·have:=hS.lt hO hmi h (by have:=hj.1;omega);omega
  refine zVp R hr.gb hop (hr.wait i hmi hun) hmc hq fun a' w' q' hgb=> ?_;rw [hd] at hgb;refine hK _ _ _ _ _ ⟨hgb,envDone (envK hv),envWas,fun id hid=> ?_,fun j hj hl=> ?_,fun j hj hl=> ?_,fun id hid=> ?_,fun j hj hl=> ?_⟩
  ·rw [yB,if_neg (by have:=(hS.keep' hO (i:=0) (j:=i) (by omega) (by omega)).1;omega)];exact hr.old id hid
  ·rw [yB]
   by_cases e:j=i
   ·subst e;rw [if_pos rfl,hob]
   ·rw [if_neg (Ne.symm (apart j hj e))];exact hr.made j hj (by rw [<- setne e];exact hl)
  ·have e:j≠i:=by rintro rfl;rw [zBZ] at hl;cases hl
   rw [qP (Ne.symm (apart j hj e))];exact hr.wait j hj (by rw [<- setne e];exact hl)
  ·rw [yB,if_neg (by rintro rfl;exact hid ob hob)];exact hr.none id hid
  ·have e:j≠i:=by rintro rfl;rw [zBZ] at hl;cases hl
   rw [yB,if_neg (Ne.symm (apart j hj e))];exact hr.nob j hj (by rw [<- setne e];exact hl)
def left (listed:Array Bool) (k:Nat):Nat:=((List.range k).filter fun i=> !listed.getD i true).length
theorem zUP {listed:Array Bool} {k:Nat} (h:left listed k=0): ∀ i<k,listed.getD i true=true:=by
 intro i hi;cases hl:listed.getD i true with
 | true=>rfl
 | false =>
   have hm:i∈(List.range k).filter fun i=> !listed.getD i true:=List.mem_filter.2 ⟨zW.2 hi,by rw [hl];rfl⟩;rw [zDD.1 h] at hm;cases hm
theorem zKM {listed:Array Bool} {i:Nat} (hl:listed.getD i true=false): ∀ {l:List Nat},l.Nodup->i∈l->
 (l.filter fun j=> !listed.getD j true).length=(l.filter fun j=> !(listed.setIfInBounds i true).getD j true).length+1
 | b ::l,hn,hm=>by
   obtain ⟨hb,hn⟩:=yQ.1 hn
   have same: ∀ l:List Nat,i∉l->(l.filter fun j=> !listed.getD j true)=l.filter fun j=> !(listed.setIfInBounds i true).getD j true:=fun l hil =>
    List.filter_congr fun j hj=>by rw [getD_set_ne true (by rintro rfl;exact hil hj)]
   rcases zP.1 hm with e|hm
   ·subst e;rw [yV (by rw [hl];rfl),qC (by rw [zA1];simp),same l hb];rfl
   ·have hne:b≠i:=by rintro rfl;exact hb hm
    have ih:=zKM hl hn hm
    by_cases hp:listed.getD b true=false
    ·rw [yV (by rw [hp];rfl),yV (by rw [getD_set_ne true (Ne.symm hne),hp];rfl)];simp only [zZ];omega
    ·rw [qC (by simpa using hp),qC (by rw [getD_set_ne true (Ne.symm hne)];simpa using hp)];exact ih
theorem zW2 {listed:Array Bool} {i k:Nat} (hl:listed.getD i true=false) (hi:i<k):left listed k=left (listed.setIfInBounds i true) k+1 :=
 zKM hl List.nodup_range (zW.2 hi)
theorem zTo (R:zAS P T) (hO:Ssa ops k) (hS:Run T B N ops k S) (hk:k<=ops.size) (hneed: ∀ j,k<=j->j<ops.size->zFF ops j [j]=true) (hall: ∀ (i:Nat) (o:Oper),ops[i]? =some o->y4 N o=true) {fuel:Nat} (lk:Array Bool)
 (htail: ∀ (a:Act) (w:World) (listed:Array Bool) (env:Env) (hp':zAG) (M:yN),(∀ i<k,listed.getD i true=true)->(∀ i,listed.getD i true=lk.getD i true)->listed.size=lk.size->RD B N ops k S listed a w env hp' M->wpAnyIn (FR r) n P .any ops Q fuel listed a w) :
 ∀ (m:Nat) (listed:Array Bool) (a:Act) (w:World) (env:Env) (hp':zAG) (M:yN),left listed k=m->Dn ops listed->listed.size=ops.size->(∀ i,k<=i->listed.getD i true=lk.getD i true)->(∀ i<k,lk.getD i true=true)->listed.size=lk.size->RD B N ops k S listed a w env hp' M->
   wpAnyIn (FR r) n P .any ops Q (m+fuel) listed a w
 | 0,listed,a,w,env,hp',M,hm,dn,hsz,hl1,hl2,hs,hr=>by
   rw [yK];have h1:=zUP hm;refine htail a w listed env hp' M h1 (fun i=> ?_) hs hr
   by_cases hi:i<k
   ·rw [h1 i hi,hl2 i hi]
   ·exact hl1 i (by omega)
 | m + 1,listed,a,w,env,hp',M,hm,dn,hsz,hl1,hl2,hs,hr=>by
   rw [show m+1+fuel=(m+fuel)+1 by omega]
   -- the first that is not listed
   have hex: ∃ i,i<k/\listed.getD i true=false:=by
    have:((List.range k).filter fun i=> !listed.getD i true)≠[]:=by
     intro e;have:left listed k=0:=by unfold left;rw [e];rfl
     omega
    obtain ⟨i,hi⟩:=List.exists_mem_of_ne_nil _ this;obtain ⟨h1,h2⟩:=List.mem_filter.1 hi;exact ⟨i,zW.1 h1,by simpa using h2⟩
   have hfalse: ∀ {j:Nat},j<ops.size->listed.getD j true=true->listed.getD j false=true:=fun {j} hj h=>by
    simpa [zK,hsz,hj] using h
   have hready:Region.ready .any ops listed≠[]:=by
    obtain ⟨i,hi⟩: ∃ i,(i<k/\listed.getD i true=false)/\∀ j,j<i->¬ (j<k/\listed.getD j true=false):=by
     obtain ⟨i,hi⟩:=hex
     induction i using Nat.strongRecOn with
     | ind i ih =>
       by_cases h: ∃ j,j<i/\(j<k/\listed.getD j true=false)
       ·obtain ⟨j,h1,h2⟩:=h;exact ih j h1 h2
       ·exact ⟨i,hi,fun j h1 h2=>h ⟨j,h1,h2⟩⟩
    obtain ⟨⟨hik,hun⟩,hmin⟩:=hi;obtain ⟨o,d,ho,_,_,_,hedge⟩:=hO.get i hik
    have:i∈Region.ready .any ops listed:=mem_ready.2 ⟨hun,o,ho,fun e he hb=>by
     have hlt:=hedge e he hb;refine hfalse (by omega) ?_;cases hl:listed.getD e.on true with
     | true=>rfl
     | false=>exact absurd ⟨by omega,hl⟩ (hmin e.on hlt)⟩
    intro e;rw [e] at this;cases this
   refine ⟨fun h0=>(hready h0).elim,fun i hi=> ?_⟩;have hun:=(mem_ready.1 hi).1;have hdn:=dn.set hi
   have hik:i<k:=by
    refine Nat.lt_of_not_le fun hki=> ?_
    have hisz:i<ops.size:=by
     refine Nat.lt_of_not_le fun h=> ?_;rw [zK,yX (by omega)] at hun;cases hun
    obtain ⟨j,hj,hjl⟩:=hex
    have:=zHd (k:=ops.size) (listed:=listed.setIfInBounds i true) (fun j1 i1 h1 h2 h3=>by
     have h4:(listed.setIfInBounds i true).getD j1 false=true:=by simpa [zK,hsz,h1] using h2
     exact zOw (hdn j1 i1 h4 h3)) i [i] (hneed i hki hisz) (fun j1 h1=>by
     rw [zD.1 h1];exact ⟨hisz,zA1⟩) (by omega) j (by omega)
    rw [getD_set_ne true (by omega)] at this;rw [hjl] at this;cases this
   refine zWv R hO hS hall dn hr hi hik fun a' w' env' hp2 β' hr'=> ?_;refine zTo R hO hS hk hneed hall lk htail m _ a' w' env' hp2 β' ?_ hdn (by simpa using hsz) (fun j hj=> ?_) hl2 (by simpa using hs) hr'
   ·have:=zW2 hun hik;omega
   ·rw [getD_set_ne true (by omega)];exact hl1 j hj
end
end Go.Vm
namespace Go.Vm
open Go.RowKit
section
variable {P:Program} {B:Base} {w w':World} {I τ:Sig} {M:yN} {st:St} {tmps:Array Value} {T:Tab}
def zJe (hp:zAG):Prop:= ∀ id ob,hget hp id=some ob->ob.still=true
theorem zAt.moved {id:Nat} {ob:Ob} (hs:I.le τ) (h:zAt I M w id ob) (hst:ob.still=true) (hk: ∀ p,M[id]? =some (some p)->w'.heap[p.b]? =w.heap[p.b]?):zAt τ M w' id ob:=by
 cases ob with
 | row e T xs =>
   obtain ⟨h0,h⟩:=h;refine ⟨h0,?_⟩;cases hβ:M[id]? with
   | none=>simp [hβ] at h
   | some x =>
     cases x with
     | none=>simpa [hβ] using h
     | some p =>
       simp only [hβ] at h ⊢;obtain ⟨h1,h2,h3,c,h4,h5,h6⟩:=h;exact ⟨h1,h2,h3,c,by rw [hk p hβ];exact h4,h5,fun i x hx=>let ⟨d,e1,e2⟩:=h6 i x hx;⟨d,e1.mono hs,e2⟩⟩
 | flat T cs =>
   obtain ⟨p,h1,h2,h3,h4,h5,c,h6,h7⟩:=h;exact ⟨p,h1,h2,h3,h4,h5,c,by rw [hk p h1];exact h6,h7.mono fun _ _=>y7.mono hs⟩
 | map k v m =>
   obtain ⟨h0,p,es,clock,h1,h2,h3,h4⟩:=h;exact ⟨h0,p,es,clock,h1,by rw [hk p h1];exact h2,h3,fun i x hx=>let ⟨en,dk,dv,e1,e2,e3,e4,e5⟩:=h4 i x hx;⟨en,dk,dv,e1,e2.mono hs,e3,e4.mono hs,e5⟩⟩
 | gmap=>cases hst
 | grow=>cases hst
 | fr X l=>exact ⟨h.1,fun t=>(h.2 t).mono hs⟩
theorem GG.extend (h:GG B I M st tmps w) (hst:zJe st.hp) (hs:I.le τ) (hag:Ag τ w') (hown: ∀ b,b<w.heap.size->I b=none->w'.heap[b]? =w.heap[b]? /\τ b=none)
 (hb:Below B.w.heap.size w w') (hold: ∀ b,b<B.w.heap.size->τ b=I b):GG B τ M st tmps w':=by
 have own: ∀ {id:Nat} {ob:Ob} {p:Bk},hget st.hp id=some ob->M[id]? =some (some p)->w'.heap[p.b]? =w.heap[p.b]? /\τ p.b=none:=fun hi hp =>
  hown _ ((h.mem.ob _ _ hi).lt hp) (h.sep _ _ _ hi hp).1
 refine ⟨⟨hag,fun id ob hi=> ?_⟩,fun t=>(h.env t).mono hs,h.len,fun id ob p hi hp=> ?_,h.bel.trans hb,h.grew.1.trans hs,fun b hlt=>(hold b hlt).trans (h.grew.2 b hlt)⟩
 ·exact (h.mem.ob _ _ hi).moved hs (hst _ _ hi) fun p hp=>(own hi hp).1
 ·obtain ⟨s1,s2,s3⟩:=h.sep _ _ _ hi hp;exact ⟨(own hi hp).2,s2,s3⟩
theorem GG.drop (h:GG B I M st tmps w) (id:Nat):GG B I M {st with hp:=zDb st.hp id} tmps w:=by
 have get: ∀ {i:Nat} {ob:Ob},hget (zDb st.hp id) i=some ob->hget st.hp i=some ob:=fun {i ob} e=>by
  rw [zAv] at e;split at e
  ·cases e
  ·exact e
 exact ⟨⟨h.mem.ag,fun i ob hi=>h.mem.ob _ _ (get hi)⟩,h.env,h.len,fun i ob p hi hp=>let ⟨s1,s2,s3⟩:=h.sep _ _ _ (get hi) hp;⟨s1,s2,fun _ _ _ hne hi'=>s3 _ _ _ hne (get hi')⟩,h.bel,h.grew⟩
theorem zJe.drop {id:Nat} : ∀ {hp:zAG},zFx id hp=true->zJe (zDb hp id)
 | [],_=>fun i ob e=>by cases e
 | (k, o)::r,h=>fun i ob e=>by
   simp only [zFx,zA,yO] at h;rw [zAv] at e;split at e
   ·cases e
   ·rename_i hne;rw [yB] at e;split at e
    ·rename_i hk;subst hk;cases e;rcases h.1 with h1|h1
     ·exact (hne (zC h1)).elim
     ·exact h1
    ·refine zJe.drop h.2 i ob ?_;rw [zAv,if_neg hne];exact e
theorem GG.readd {id:Nat} {ob ob':Ob} {p:Bk} (hi:hget st.hp id=some ob) (h:GG B τ M {st with hp:=zDb st.hp id} tmps w') {w'':World} (hp:M[id]? =some (some p))
 (hw: ∀ k,k≠p.b->w''.heap[k]? =w'.heap[k]?) (hb:Below B.w.heap.size w' w'') (hn:τ p.b=none) (hbase:B.w.heap.size<=p.b)
 (hoth: ∀ id' ob' p',id'≠id->hget st.hp id'=some ob'->M[id']? =some (some p')->p'.b≠p.b) (ho:zAt τ M w'' id ob') :
 GG B τ M {st with hp:=zBZ st.hp id ob'} tmps w'':=by
 have hset_get: ∀ i,hget (zBZ st.hp id ob') i=if i=id then some ob' else hget st.hp i:=fun i=>zAx ⟨_,hi⟩;have hdel_get: ∀ {i:Nat} {o:Ob},i≠id->hget st.hp i=some o->hget (zDb st.hp id) i=some o:=fun {i o} hne e=>by rw [zAv,if_neg hne];exact e
 have none_of: ∀ b o,τ b=some o->b≠p.b:=fun b o e=>by rintro rfl;rw [hn] at e;cases e
 refine ⟨⟨fun b o e=> ?_,fun i o e=> ?_⟩,h.env,h.len,fun i o q e hq=> ?_,h.bel.trans hb,h.grew⟩
 ·rw [hw b (none_of b o e)];exact h.mem.ag _ _ e
 ·simp only [hset_get] at e;split at e
  ·rename_i e';subst e';cases e;exact ho
  ·rename_i hne;exact (h.mem.ob _ _ (hdel_get hne e)).same (fun q hq=>hw _ (hoth _ _ _ hne e hq)) fun b o e=>hw b (none_of b o e)
 ·simp only [hset_get] at e;split at e
  ·rename_i e';subst e';rw [hp] at hq;cases hq;refine ⟨hn,hbase,fun i' o' q' hne e2 hq'=> ?_⟩;simp only [hset_get,if_neg hne] at e2;exact hoth _ _ _ hne e2 hq'
  ·rename_i hne;obtain ⟨s1,s2,s3⟩:=h.sep _ _ _ (hdel_get hne e) hq;refine ⟨s1,s2,fun i' o' q' hne' e2 hq'=> ?_⟩;simp only [hset_get] at e2;split at e2
   ·rename_i e';subst e';rw [hp] at hq';cases hq';exact Ne.symm (hoth _ _ _ hne e hq)
   ·rename_i hne2;exact s3 _ _ _ hne' (hdel_get hne2 e2) hq'
theorem jI.nil_of {I:Sig} {e:ETy} {xs:List e.T} {n cap:Nat} {a:Option Addr} (h:jI I (.sl e) xs [.slice a n cap]):xs.length=n:=by
 obtain ⟨a',c',e1,_⟩:=h;have:=(List.cons.inj e1).1;cases this;rfl
theorem zMz (hT:zAZ P T) (h:GG B I M st tmps w) (hst:zJe st.hp) {base:Nat} (hbase:B.w.heap.size<=base) (hbw:base<w.heap.size) {v:Value} {e:ETy} {xs ys:List e.T} (hv:jI I (.sl e) xs [v])
 (hf:zDs I w base e.size v) {y:Value} (hsrc: ∃ ao c,y= .slice ao ys.length c/\(ys≠[]->∃ ad,ao=some ad/\∃ dss,jZ (jI I e) ys dss/\∀ (j:Nat) (u:Value),dss.flatten[j]? =some u->w.cell? (ad.add j)=some u))
 (hne:ys≠[]) {t u:TypeId} {ui:TI} (ty:TypeId) (hdc:T.desc t= .slice u) (hui:T.info u=some ui) (hsz:ui.size=e.size) (hsz0:ui.size≠0) (hbz:ui.bytes≠0) (hreq:zB8 xs.length ys.length ui.bytes) :
 ∃ v' w' τ,(Builtin.append_ #[t,t] ty #[v,y]).run P w= .ok v' w'/\GG B τ M st tmps w'/\I.le τ/\jI τ (.sl e) (xs++ys) [v']/\zDs τ w' base e.size v'/\
   (∀ b o,I b=some o->(∀ o2 n c,v≠.slice (some ⟨b,o2,none⟩) n c)->τ b=some o/\w'.heap[b]? =w.heap[b]?)/\(∀ b,b<w.heap.size->I b=none->w'.heap[b]? =w.heap[b]? /\τ b=none)/\
   (∀ b o2 n c,v'= .slice (some ⟨b,o2,none⟩) n c->b=w.heap.size\/∃ o3 n3 c3,v= .slice (some ⟨b,o3,none⟩) n3 c3)/\Below B.w.heap.size w w':=by
 obtain ⟨ao,c,rfl,hyc⟩:=hsrc;obtain ⟨ad,rfl,dss,hd1,hd2⟩:=hyc hne;obtain ⟨i,z,hi,hsi,hbi,hzz,hzl⟩:=(hT _ _ hui).get;have hzs:z.cells.size=i.size:=by rw [hsi,<- (hT _ _ hui).zlen,<- hzl];simp
 have hund:=hT.und hdc (by simp)
 have hreqN:(xs.length+ys.length)*ui.bytes<=140737488355328:=by
  have:(((xs.length+ys.length)*ui.bytes:Nat):Int)<=140737488355328:=by push_cast;exact hreq
  omega
 have hlen63:xs.length+ys.length<=140737488355328:=qT (Nat.le_mul_of_pos_right _ (by omega)) hreqN;have hfl:=zAu hd1;have hpos:0<ys.length:=zAR.2 hne;have hBw:=h.bel.size
 -- a new block, with these data at its front
 have fresh: ∀ {zs:List e.T} {ds2:List (List Value)} {n cap:Nat} {cc:Array Value},zs=xs++ys->jZ (jI I e) zs ds2->n=zs.length->n<=cap->cc.size=cap*e.size->(∀ (j:Nat) (u:Value),ds2.flatten[j]? =some u->cc[j]? =some u)->
  (Builtin.append_ #[t,t] ty #[v,.slice (some ad) ys.length c]).run P w= .ok (.slice (some ⟨w.heap.size,0,none⟩) n cap) (w.drew.alloc (.cells cc u))->
  ∃ v' w' τ,(Builtin.append_ #[t,t] ty #[v,.slice (some ad) ys.length c]).run P w= .ok v' w'/\GG B τ M st tmps w'/\I.le τ/\jI τ (.sl e) (xs++ys) [v']/\zDs τ w' base e.size v'/\
    (∀ b o,I b=some o->(∀ o2 n c,v≠.slice (some ⟨b,o2,none⟩) n c)->τ b=some o/\w'.heap[b]? =w.heap[b]?)/\(∀ b,b<w.heap.size->I b=none->w'.heap[b]? =w.heap[b]? /\τ b=none)/\
    (∀ b o2 n c,v'= .slice (some ⟨b,o2,none⟩) n c->b=w.heap.size\/∃ o3 n3 c3,v= .slice (some ⟨b,o3,none⟩) n3 c3)/\Below B.w.heap.size w w':=by
  intro zs ds2 n cap cc hz hall hn hcap hcc hget hrun;subst hn
  have hle:I.le (fun b=>if b=w.heap.size then some (.cells ds2.flatten.toArray u (0,0)) else I b):=by
   intro b o e;have:=h.mem.ag.lt e;show ∃ o',(if b=w.heap.size then _ else _)=some o'/\_;rw [if_neg (by omega)];exact ⟨o,e,.refl⟩
  have hold: ∀ k,k<w.heap.size->(w.drew.alloc (.cells cc u)).heap[k]? =w.heap[k]? :=fun k hk=>Go.heap_alloc_old w.drew _ (by simpa using hk);have hnew:(w.drew.alloc (.cells cc u)).heap[w.heap.size]? =some (.cells cc u):=heap_alloc_new w.drew _;have hbel:Below B.w.heap.size w (w.drew.alloc (.cells cc u)):=((Below.refl _ w).drew).alloc (by simpa using hBw) _;have hfl2:=zAu hall;refine ⟨_,_,fun b=>if b=w.heap.size then some (.cells ds2.flatten.toArray u (0,0)) else I b,hrun,h.extend hst hle (fun b o e=> ?_) (fun b hb e=>⟨hold b hb,?_⟩) hbel (fun b hb=> ?_),hle,?_,?_,fun b o e _=> ?_,fun b hb e=>⟨hold b hb,?_⟩,fun b o2 n2 c2 e=> ?_,hbel⟩
  ·replace e:(if b=w.heap.size then some (Obj.cells ds2.flatten.toArray u (0,0)) else I b)=some o:=e;split at e
   ·rename_i hb;subst hb;cases e;exact ⟨_,hnew,.inr ⟨_,_,_,_,rfl,rfl,fun j v hj=>hget j v (by simpa using hj)⟩⟩
   ·have:=h.mem.ag.lt e;rw [hold _ this];exact h.mem.ag _ _ e
  ·show (if b=w.heap.size then _ else _)=none;rw [if_neg (by omega)];exact e
  ·show (if b=w.heap.size then _ else _)=_;rw [if_neg (by omega)]
  ·rw [<- hz];refine ⟨_,_,rfl,by rw [hz];simp only [z7];omega,hcap,fun _=>⟨w.heap.size,0,rfl,fun i x hx=> ?_⟩⟩;obtain ⟨d,h1,h2⟩:=zC1 (I:=I) (look:=fun k=>ds2.flatten[k]?) (k:=0) hall (fun j v hj=>by simpa using hj) i x hx;exact ⟨d,h1.mono hle,ds2.flatten.toArray,u,(0,0),by simp,fun j v hj=>by simpa using h2 j v hj⟩
  ·refine .inr ⟨w.heap.size,0,zs.length,cap,ds2.flatten.toArray,cc,u,rfl,by simp,hnew,?_,hcap,by rw [yK,hcc];exact zI _,hbw⟩;rw [List.size_toArray,hfl2,yK]
  ·have:=h.mem.ag.lt e;exact ⟨by show (if b=w.heap.size then _ else _)=_;rw [if_neg (by omega)];exact e,hold _ this⟩
  ·show (if b=w.heap.size then _ else _)=none;rw [if_neg (by omega)];exact e
  ·cases e;exact .inl rfl
 rcases hf with rfl|⟨b,o,n,cap,c0,c1,Tc,rfl,hσ,hw0,hc0,hncap,hocap,hbb⟩
 ·-- a nil slice
  have hx0:=hv.nil_of;obtain rfl:xs=[]:=List.eq_nil_of_length_eq_zero hx0;have hr:=run_append_nil (P:=P) w t ty u i z hund hi hzz ad ys.length c dss.flatten (by rw [hfl,hsi,hsz]) hd2 hpos (by omega) (by rw [hbi];simp only [List.length_nil,yK] at hreqN;omega);have hge:=grownCap_ge w ys.length 0 u;refine fresh (zs:=ys) (ds2:=dss) rfl hd1 rfl hge ?_ (fun j v hj=> ?_) hr
  ·simp only [Array.size_append,List.size_toArray,size_zeroCells,hzs,hfl,hsi,hsz,<- Nat.add_mul]
   congr 1;omega
  ·rw [Array.getElem?_append_left (by simpa using (zG.1 hj).1)];simpa using hj
 ·have hxn:=hv.nil_of;subst hxn;obtain ⟨a',cap',e1,hl1,hl2,hcell⟩:=hv;obtain ⟨ha',hcap'⟩:a'=some ⟨b,o,none⟩/\cap'=cap:=by have:=(List.cons.inj e1).1;cases this;exact ⟨rfl,rfl⟩
  subst ha';subst hcap'
  -- the elements that are there
  have olds:RowsIn I e xs c0.toList o:=by
   intro i' x hx;have hxne:xs≠[]:=by rintro rfl;simp at hx
   obtain ⟨b',o',e2,hr⟩:=hcell hxne;cases e2;obtain ⟨d,h1,c2,T2,fz2,h2,h3⟩:=hr i' x hx;rw [hσ] at h2;cases h2;exact ⟨d,h1,fun j v hj=>by rw [zJ];exact h3 j v hj⟩
  obtain ⟨o',hag1,hag2⟩:=h.mem.ag _ _ hσ;rw [hw0] at hag1;cases hag1;obtain ⟨c2,e2,hfirst⟩:=hag2.cells;cases e2;obtain ⟨ods,hod1,hod2⟩:=zEY (I:=I) (look:=fun k=>c0.toList[k]?) (k:=o) olds;have hofl:=zAu hod1
  by_cases hroom:xs.length+ys.length<=cap'
  ·have hfit:o+xs.length*i.size+dss.flatten.length<=c1.size:=by
    rw [hfl,hsi,hsz];have:=yD e.size hroom;rw [Nat.add_mul] at this;omega
   have hr:=zC0 (P:=P) (w:=w) (ty:=ty) hund hi hw0 (by rw [hfl,hsi,hsz]) hd2 (zKl hd1) hroom hfit (c:=c);have hpl:o+xs.length*i.size=c0.size:=by rw [hsi,hsz,hc0]
   rw [hpl] at hr hfit;have hcl:c0.size+dss.flatten.length<=c1.toList.length:=by simpa using hfit
   have hnewb:=zB3 (c1.toList.take c0.size++dss.flatten++c1.toList.drop (c0.size+dss.flatten.length)).toArray hw0;have hoth: ∀ k,k≠b->(w.setRow b (c1.toList.take c0.size++dss.flatten++c1.toList.drop (c0.size+dss.flatten.length)).toArray).heap[k]? =w.heap[k]? :=fun k hk=>setRow_other w b k _ hk
   have hgrow:Ole (.cells c0 Tc (0,0)) (.cells (c0++dss.flatten.toArray) Tc (0,0)):= .inr ⟨_,_,_,_,rfl,rfl,fun j v hj=>by
    rw [Array.getElem?_append_left (zR.1 hj).1];exact hj⟩
   have hle:I.le (fun k=>if k=b then some (.cells (c0++dss.flatten.toArray) Tc (0,0)) else I k):=by
    intro k ob ek;show ∃ o',(if k=b then _ else _)=some o'/\_
    by_cases hk:k=b
    ·subst hk;rw [if_pos rfl];rw [hσ] at ek;cases ek;exact ⟨_,rfl,hgrow⟩
    ·rw [if_neg hk];exact ⟨ob,ek,.refl⟩
   have hbel:Below B.w.heap.size w (w.setRow b (c1.toList.take c0.size++dss.flatten++c1.toList.drop (c0.size+dss.flatten.length)).toArray):=Below.setRow w _ _ (by omega);have hc1:c1.toList.length=c1.size:=by simp
   refine ⟨_,_,fun k=>if k=b then some (.cells (c0++dss.flatten.toArray) Tc (0,0)) else I k,hr,h.extend hst hle (fun k ob ek=> ?_) (fun k hk ek=> ?_) hbel (fun k hk=> ?_),hle,?_,?_,fun k ob ek hk=> ?_,fun k hk ek=> ?_,fun k o2 n2 c2 ek=> ?_,hbel⟩
   ·replace ek:(if k=b then some (Obj.cells (c0++dss.flatten.toArray) Tc (0,0)) else I k)=some ob:=ek;split at ek
    ·rename_i hk;subst hk;cases ek;refine ⟨_,hnewb,.inr ⟨_,_,_,_,rfl,rfl,fun j v hj=> ?_⟩⟩;rw [Array.getElem?_append] at hj;simp only [List.getElem?_toArray,zBv hcl];split at hj
     ·rename_i hj1;rw [if_pos hj1,zJ];exact hfirst j v hj
     ·rename_i hj1;have hj2:=(zR.1 hj).1;simp only [List.size_toArray] at hj2;rw [if_neg hj1,if_pos (by omega)];simpa using hj
    ·rename_i hk;rw [hoth k hk];exact h.mem.ag _ _ ek
   ·have hk':k≠b:=by rintro rfl;rw [hσ] at ek;cases ek
    exact ⟨hoth k hk',by show (if k=b then _ else _)=none;rw [if_neg hk'];exact ek⟩
   ·show (if k=b then _ else _)=_;rw [if_neg (by omega)]
   ·refine ⟨some ⟨b,o,none⟩,cap',by simp only [z7],by simp only [z7];omega,by simpa using hroom,fun _=>⟨b,o,rfl,fun i' x hx=> ?_⟩⟩;have hall:jZ (jI I e) (xs++ys) (ods++dss):=hod1.append hd1
    have hcat: ∀ (j:Nat) (v:Value),(ods++dss).flatten[j]? =some v->(c0++dss.flatten.toArray)[o+j]? =some v:=by
     intro j v hj;rw [List.flatten_append,List.getElem?_append] at hj;split at hj
     ·rename_i hj1;have:=hod2 j v hj;have h2:=(zG.1 this).1;rw [zFZ] at h2;rw [Array.getElem?_append_left h2,<- zJ];exact this
     ·rename_i hj1;rw [Array.getElem?_append_right (by rw [hc0,<- hofl];omega)];rw [hc0,<- hofl,List.getElem?_toArray,show o+j - (o+ods.flatten.length)=j - ods.flatten.length by omega];exact hj
    obtain ⟨d,h1,h2⟩:=zC1 (I:=I) (look:=fun k=>(c0++dss.flatten.toArray)[k]?) (k:=o) hall hcat i' x hx;exact ⟨d,h1.mono hle,c0++dss.flatten.toArray,Tc,(0,0),by simp,fun j v hj=>h2 j v hj⟩
   ·refine .inr ⟨b,o,xs.length+ys.length,cap',c0++dss.flatten.toArray,_,Tc,rfl,by simp,hnewb,?_,hroom,?_,hbb⟩
    ·have e1:dss.flatten.toArray.size=dss.flatten.length:=by simp
     rw [Array.size_append,e1,hfl,hc0,Nat.add_mul];omega
    ·simp only [List.size_toArray,z7,zAN,zE1];rw [Nat.min_eq_left (by omega)];omega
   ·have hk':k≠b:=by rintro rfl;exact hk _ _ _ rfl
    exact ⟨by show (if k=b then _ else _)=_;rw [if_neg hk'];exact ek,hoth k hk'⟩
   ·have hk':k≠b:=by rintro rfl;rw [hσ] at ek;cases ek
    exact ⟨hoth k hk',by show (if k=b then _ else _)=none;rw [if_neg hk'];exact ek⟩
   ·cases ek;exact .inr ⟨_,_,_,rfl⟩
  ·have hold: ∀ (j:Nat) (v:Value),ods.flatten[j]? =some v->w.cell? ((⟨b,o,none⟩:Addr).add j)=some v:=by
    intro j v hj;rw [Addr.add_none,zAD hw0];exact hfirst _ _ (by rw [<- zJ];exact hod2 j v hj)
   have hr:=run_append_grow (P:=P) w t ty u i z hund hi hzz ⟨b,o,none⟩ xs.length cap' ods.flatten (by rw [hofl,hsi,hsz]) hold ad ys.length c dss.flatten (by rw [hfl,hsi,hsz]) hd2 (by omega) (by omega) (growslice_fits (by omega) (by rw [hbi];exact hreqN));have hge:=grownCap_ge w (xs.length+ys.length) cap' u;refine fresh (zs:=xs++ys) (ds2:=ods++dss) rfl (hod1.append hd1) (by simp) hge ?_ (fun j v hj=> ?_) hr
   ·simp only [Array.size_append,List.size_toArray,size_zeroCells,hzs,hfl,hofl,hsi,hsz,<- Nat.add_mul]
    congr 1;omega
   ·rw [List.flatten_append] at hj;rw [Array.getElem?_append_left (by simpa using (zG.1 hj).1)];simpa using hj
theorem zIC {v v':Value} (h:zMQ v v'):zMQ v' v:=fun b o n c b' o' n' c' e e' hb=>h _ _ _ _ _ _ _ _ e' e hb.symm
theorem zEd {base sz:Nat} {vals:List Value} {j:Nat} {v v':Value} (hF:zAi I w base sz vals) (hj:vals[j]? =some v) (hag:Ag I w)
 (hkeep: ∀ b o,I b=some o->(∀ o2 n c,v≠.slice (some ⟨b,o2,none⟩) n c)->τ b=some o/\w'.heap[b]? =w.heap[b]?) (hf:zDs τ w' base sz v')
 (hnew: ∀ b o2 n c,v'= .slice (some ⟨b,o2,none⟩) n c->b=w.heap.size\/∃ o3 n3 c3,v= .slice (some ⟨b,o3,none⟩) n3 c3):zAi τ w' base sz (vals.set j v'):=by
 have hjl:=(zG.1 hj).1;have hpw:=List.pairwise_iff_getElem.1 hF.2;have hjv:vals[j]=v:=by rw [zB hjl] at hj;exact Option.some.inj hj
 have apart: ∀ (i:Nat) (hi:i<vals.length),i≠j->zMQ vals[i] v:=by
  intro i hi hne;rw [<- hjv];rcases Nat.lt_or_gt_of_ne hne with hlt|hgt
  ·exact hpw i j hi hjl hlt
  ·exact zIC (hpw j i hjl hi hgt)
 have apart': ∀ (i:Nat) (hi:i<vals.length),i≠j->zMQ vals[i] v':=by
  intro i hi hne b o n c b' o' n' c' e e' hb;subst hb;rcases hnew _ _ _ _ e' with h1|⟨o3,n3,c3,h1⟩
  ·rcases hF.1 _ (y6 hi) with h2|⟨b2,o2,n2,cap2,c2,c3,T2,h2,h3,_⟩
   ·rw [e] at h2;cases h2
   ·rw [e] at h2;cases h2;have:=hag.lt h3;omega
  ·exact apart i hi hne _ _ _ _ _ _ _ _ e h1 rfl
 refine ⟨fun x hx=> ?_,List.pairwise_iff_getElem.2 fun i i' hi hi' hlt=> ?_⟩
 ·obtain ⟨i,hi,rfl⟩:=yG.1 hx;rw [qZ] at hi;rw [List.getElem_set];split
  ·exact hf
  ·rename_i hne;rcases hF.1 _ (y6 hi) with h2|⟨b2,o2,n2,cap2,c2,c3,T2,h2,h3,h4,h5⟩
   ·exact .inl h2
   ·obtain ⟨g1,g2⟩:=hkeep _ _ h3 fun o3 n3 c3 e=>apart i hi (Ne.symm hne) _ _ _ _ _ _ _ _ h2 e rfl;exact .inr ⟨b2,o2,n2,cap2,c2,c3,T2,h2,g1,by rw [g2];exact h4,h5⟩
 ·rw [qZ] at hi hi';rw [List.getElem_set,List.getElem_set];split
  ·rename_i e1;split
   ·omega
   ·exact zIC (apart' i' hi' (by omega))
  ·rename_i e1;split
   ·exact apart' i hi (by omega)
   ·exact hpw i i' hi hi' hlt
theorem zJq {base sz:Nat} {vals:List Value} (hF:zAi I w base sz vals):zAi I w base sz (vals++[.slice none 0 0]):=by
 refine ⟨fun x hx=> ?_,List.pairwise_append.2 ⟨hF.2,by simp,fun a _ b hb=> ?_⟩⟩
 ·simp only [zY,zD] at hx;rcases hx with hx|rfl
  ·exact hF.1 x hx
  ·exact .inl rfl
 ·simp only [zD] at hb;subst hb;intro b o n c b' o' n' c' _ e';cases e'
theorem zYY {t kt u:TypeId} {k ev:ETy} (hMO:zFK P kt u k ev) (hT:zAZ P T) (hdc:T.desc t= .map kt u) {b:Nat} {es:Array MapEntry} {clock:Nat} (hb:w.heap[b]? =some (.map es clock)) {m:List (k.T×ev.T)} (hmat:MapAt I k ev m es)
 {q:k.T} {dk:List Value} (hkey:jI I k q dk) (val:Value) :
 ∃ es' clock',(Instr.mapUpdate t (.map (some b)) (yY k dk) val).run P w= .ok () {w with heap:=w.heap.setIfInBounds b (.map es' clock')}/\
   ((∀ en∈es.toList,en.key≠yY k dk)/\(∀ p∈m,p.1≠q)/\es'=es.push {key:=yY k dk,val:=val,born:=clock}/\clock'=clock+1\/
     ∃ j en y,es[j]? =some en/\en.key=yY k dk/\m[j]? =some (q,y)/\es'=es.modify j (fun e=> {e with key:=yY k dk,val:=val})/\clock'=clock):=by
 have hdesc:=hT.desc (w:=w) hdc (by simp);have runGet:=MapKept.run_getObj_map (P:=P) hb;have hck:=hMO.key.check w false hkey;have hf:=zDq (w:=w) hMO.key hmat hkey;have hstay:=hMO.key.stays w hkey;have runSet: ∀ o',(setObj b o').run P w= .ok () {w with heap:=w.heap.setIfInBounds b o'} :=fun o'=>MapKept.run_setObj_map o' hb;rcases hf with ⟨h1,h2⟩|⟨j,en,y',dv,h1,h2,h3,h4,h5,h6⟩
 ·refine ⟨_,_,?_,.inl ⟨fun en hen he=> ?_,h2,rfl,rfl⟩⟩
  ·simp only [Instr.mapUpdate,zN,hdesc,zL,runGet,hck,h1];exact runSet _
  ·obtain ⟨i,hi,rfl⟩:=yG.1 hen;have hi':i<m.length:=by rw [<- hmat.1];simpa using hi
   obtain ⟨en',dk',dv',e1,e2,e3,_⟩:=hmat.2 i _ (zB hi');have:es.toList[i]? =some en':=by rw [zJ];exact e1
   rw [zB hi] at this;cases this;rw [he] at e3;exact h2 _ (y6 hi') ((hMO.key.inj hkey e2).1 e3).symm
 ·have hkeep:((es[j]?).map (·.key)).getD (yY k dk)=yY k dk:=by rw [h2];exact h3
  refine ⟨_,_,?_,.inr ⟨j,en,y',h2,h3,h4,rfl,rfl⟩⟩;simp only [Instr.mapUpdate,zN,hdesc,zL,runGet,hck,h1,hkeep,hstay];exact runSet _
theorem zU4 {k ev:ETy} {m:List (k.T×ev.T)} {es:Array MapEntry} {clock:Nat} (hmat:MapAt I k ev m es) (hS:MapKept.Stamped es clock) {q:k.T} {dk:List Value} (hkey:jI I k q dk) (habs: ∀ en∈es.toList,en.key≠yY k dk)
 {zs:ev.T} {dv:List Value} (hval:jI I ev zs dv):MapAt I k ev (m++[(q,zs)]) (es.push {key:=yY k dk,val:=yY ev dv,born:=clock})/\MapKept.Stamped (es.push {key:=yY k dk,val:=yY ev dv,born:=clock}) (clock+1):=by
 obtain ⟨hs,hmat'⟩:=hmat;refine ⟨⟨by simp [hs],fun i x hi=> ?_⟩,MapKept.stamped_push hS habs⟩;rcases Nat.lt_or_ge i m.length with hlt|hge
 ·rw [yF hlt] at hi;obtain ⟨en,dk,dv,e1,r⟩:=hmat' i x hi;exact ⟨en,dk,dv,by rw [Array.getElem?_push,if_neg (by omega)];exact e1,r⟩
 ·rw [qY hge] at hi
  have:i=m.length:=by
   have:=(zG.1 hi).1;simp at this;omega
  subst this;simp only [Nat.sub_self,zJI,zAV] at hi;subst hi;exact ⟨_,_,_,by rw [Array.getElem?_push,if_pos hs.symm],hkey,rfl,hval,rfl⟩
theorem zRr {k ev:ETy} {m:List (k.T×ev.T)} {es:Array MapEntry} {clock:Nat} (hmat:MapAt I k ev m es) (hS:MapKept.Stamped es clock) {q:k.T} {dk:List Value} (hkey:jI I k q dk) {j:Nat} {en:MapEntry} (hj:es[j]? =some en) (hk:en.key=yY k dk)
 {zs:ev.T} {dv:List Value} (hval:jI I ev zs dv) {f:MapEntry->MapEntry} (hf: ∀ e,(f e).born=e.born/\((f e).key=e.key\/(f e).key=yY k dk)/\(f e).val=yY ev dv) :
 MapAt I k ev (m.set j (q,zs)) (es.modify j f)/\MapKept.Stamped (es.modify j f) clock/\(es.modify j f).toList.map (·.val)=(es.toList.map (·.val)).set j (yY ev dv):=by
 obtain ⟨hs,hmat'⟩:=hmat
 have hfk:(f en).key=yY k dk:=by
  rcases (hf en).2.1 with h|h
  ·rw [h,hk]
  ·exact h
 refine ⟨⟨by simp [hs],fun i x hi=> ?_⟩,MapKept.stamped_modify hS j f (fun e _=>(hf e).1) (fun e _ he=> ?_),?_⟩
 ·rw [Array.getElem?_modify];rw [qI] at hi;split
  ·rename_i e';subst e';simp only [if_true] at hi;split at hi
   ·cases hi;exact ⟨_,_,_,by rw [hj];rfl,hkey,hfk,hval,(hf en).2.2⟩
   ·cases hi
  ·rename_i e';rw [if_neg e'] at hi;exact hmat' i x hi
 ·rw [hj] at he;cases he;rw [hfk,hk]
 ·apply List.ext_getElem?;intro i;simp only [zAB,zJ,Array.getElem?_modify,qI,z2,zFZ]
  by_cases hij:j=i
  ·subst hij;have:=(zR.1 hj).1;simp [this,(hf _).2.2]
  ·simp [hij]
variable {N:Nat} {a:Act} {r:Option Nat} {n:Nat} {ops:Array Oper} {Q:Exit->Act->World->Prop}
theorem zAW {o:Oper} {l:List Oper} (hg:o.guard=none) (h:o.wpIn (FR r) n P a w (wpListIn (FR r) n P ops Q l) Q):wpListIn (FR r) n P ops Q (o::l) a w:=by
 show if Region.wanted o (yielded ops a.tmps) then _ else _;have:Region.wanted o (yielded ops a.tmps)=true:=by simp [Region.wanted,hg]
 rw [if_pos this];exact h
theorem zAo {o:Oper} {v:Value} {K:Act->World->Prop} (nodefer: ∀ c,o.op≠.defer c) (hrun:(execOp a.eval o).run P w= .ok (.value v) w') (hK:K (a.put o.dst v) w'):o.wpIn (FR r) n P a w K Q:=by
 refine ⟨fun f _=>trivial,?_⟩;rw [Oper.semAt_eq _ _ _ nodefer,hrun];exact hK
theorem zOH {o:Oper} {K:Act->World->Prop} (nodefer: ∀ c,o.op≠.defer c) (hrun:(execOp a.eval o).run P w= .ok .skip w') (hK:K (a.put o.dst undef) w'):o.wpIn (FR r) n P a w K Q:=by
 refine ⟨fun f _=>trivial,?_⟩;rw [Oper.semAt_eq _ _ _ nodefer,hrun];exact hK
def PI (g:zMJ) (hp0:zAG) (p:Bk) (v hv:Value) (o:Option Obj):Prop :=
 match g.kind with
 | .upd=> ∃ (k e:ETy) (m:List (k.T×List e.T)) (q:k.T) (dk:List Value) (σ0:Sig) (es:Array MapEntry) (clock:Nat),hget hp0 g.id=some (.gmap k e m)/\k.dec g.kc=some q/\jI σ0 k q dk/\o=some (.map es clock)/\
    ((∀ en∈es.toList,en.key≠yY k dk)/\v= .slice none 0 0\/∃ (j:Nat) (en:MapEntry),es[j]? =some en/\en.key=yY k dk/\en.val=v)
 | .ent=> ∃ (k e:ETy) (m:List (k.T×List e.T)) (q:k.T) (dk:List Value) (σ0:Sig) (es:Array MapEntry) (clock j:Nat) (en:MapEntry),hget hp0 g.id=some (.gmap k e m)/\k.dec g.kc=some q/\jI σ0 k q dk/\o=some (.map es clock)/\
    es[j]? =some en/\en.key=yY k dk/\en.val=v/\hv= .tuple #[v,goInt en.born]/\∃ y,m[j]? =some (q,y)
 | .cell=> ∃ (e:ETy) (u:TypeId) (xss:List (List e.T)) (i:Nat) (c:Array Value),hget hp0 g.id=some (.grow e u xss)/\g.kc=[.int .i64 i]/\i<xss.length/\o=some (.cells c u (0,0))/\c[p.o+i]? =some v
structure z1w (B:Base) (N:Nat) (M:yN) (g:zMJ) (hp0:zAG) (p:Bk) (st:St) (a:Act) (w:World):Prop where
 gb:GB B N M st a w
 hp:st.hp=hp0
 at_:M[g.id]? =some (some p)
 pi:PI g hp0 p (a.tmps.getD g.t undef) (a.tmps.getD g.h undef) w.heap[p.b]?
 lt:p.b<w.heap.size
theorem zQc (R:zAS P T) (h:GB B N M st a w) {o:Oper} (ho:y4 N o=true) (hgc:z1H o.op=true) {p q:Option Prop} {v:AV} (hc:zAh T o.op (jW st.env) st.hp=some (p,q,v)) :
 Opt p/\(Opt q->∃ val w',(execOp a.eval o).run P w= .ok (.value val) w'/\GB B N M (st.put o.dst v) (a.put o.dst val) w'/\w.heap.size<=w'.heap.size/\∀ k,k<w.heap.size->w'.heap[k]? =w.heap[k]?):=by
 obtain ⟨I,hg⟩:=h.gg;have hd:=zAp h.size ho
 have hops: ∀ x∈o.op.operands,qA I M (jW st.env x) (a.eval x):=fun x hx=>by
  simp only [y4,zA,zO] at ho;exact jY hg (ho.2 x (by simpa using hx))
 by_cases hs:Op.simple o.op=true
 ·obtain ⟨h1,h2⟩:=zJD R.ty R.one hg.mem hops hs hc;exact ⟨h1,fun hq=>let ⟨val,e1,e2⟩:=h2 hq;⟨val,w,e1,zCt h.defers h.size ⟨I,hg.put hd e2⟩,zI _,fun _ _=>rfl⟩⟩
 ·obtain ⟨dst,op,type,pos,after,guard⟩:=o;cases op<;>first|exact (hs rfl).elim|(cases hgc;done)|skip
  rename_i t m ps;simp only [zAh] at hc;unfold zCb at hc;split at hc
  ·rename_i u hdc;split at hc
   ·rename_i ui hui;split at hc
    ·rename_i e hety;split at hc
     ·rename_i xs hdec hble hsz;cases hc;refine ⟨trivial,fun _=> ?_⟩
      have hv:jZ (fun (p:Nat×AV) (q:Nat×Value)=>p.1=q.1/\qA I M p.2 q.2) (ps.toList.map fun p=>(p.1,jW st.env p.2)) (ps.map fun (i,x)=>(i,a.eval x)).toList:=by
       rw [Array.toList_map];exact zF2 fun x hx=>hops x.2 (by simp [Op.operands];exact ⟨x.1,by simpa using hx⟩)
      obtain ⟨c,hrun,h2,h3,h4,hnn⟩:=zDC (w:=w) R.ty R.ety hv hdc hui hety hdec hble hsz;obtain ⟨σ',hg',hr'⟩:=zKC (u:=u) hg (by omega) h2;have hx:(execOp a.eval ⟨dst,.buildSlice t m ps,type,pos,after,guard⟩).run P w= .ok (.value (.slice (some ⟨w.heap.size,0,none⟩) m m)) (w.alloc (.cells c u)):=by simp [execOp,hrun]
      rw [h4] at hr';exact ⟨_,_,hx,zCt h.defers h.size ⟨σ',hg'.put hd (by cases m with|zero=>exact ⟨_,rfl⟩|succ m=>exact hr')⟩,Nat.le_of_lt (zR.1 (Go.heap_alloc_new w (.cells c u))).1,alloc_old w _⟩
     ·cases hc
    ·cases hc
   ·cases hc
  ·cases hc
theorem zH7 {d t:Tmp} {v:Value} (hne:d≠t):((a.put (some d) v).tmps).getD t undef=a.tmps.getD t undef:=by
 show (a.tmps.setIfInBounds d v).getD t undef=_;simp only [zK,qR];rw [if_neg hne]
theorem zR1 (R:zAS P T) {g:zMJ} {hp0:zAG} {p:Bk} {K:St->Oper->List Oper->Prop} : ∀ (l:List Oper) {st:St} {a:Act} {w:World},(∀ o∈l,y4 N o=true)->z1w B N M g hp0 p st a w->zXM T g l st K->
 (∀ st2 a2 w2 oA r2,K st2 oA r2->z1w B N M g hp0 p st2 a2 w2->(∀ o∈oA::r2,y4 N o=true)->wpListIn (FR r) n P ops Q (oA::r2) a2 w2)->wpListIn (FR r) n P ops Q l a w
 | [],_,_,_,_,_,hk,_=>hk.elim
 | o :: l, st,a,w,hall,h,hk,hQ=>by
   unfold zXM at hk;split at hk
   ·exact hQ _ _ _ _ _ hk h hall
   ·split at hk
    ·rename_i d hgc hgu hdst;split at hk
     ·rename_i hdn;rw [Bool.or_eq_false_iff] at hdn;have hd1:d≠g.t:=by rintro rfl;rw [qF] at hdn;cases hdn.1
      have hd2:d≠g.h:=by rintro rfl;rw [qF] at hdn;cases hdn.2
      have ho:=hall o (by simp)
      have go: ∀ {p' q':Option Prop} {st':St},zAJ T o st=some (p',q',st')->Opt p'/\(Opt q'->zXM T g l st' K->wpListIn (FR r) n P ops Q (o::l) a w):=by
       intro p' q' st' hcs;unfold zAJ at hcs;split at hcs
       ·rename_i v hc;cases hcs;obtain ⟨h1,h2⟩:=zQc R h.gb ho hgc hc;refine ⟨h1,fun hq hk'=> ?_⟩;obtain ⟨val,w1,hrun,hgb,hsz,hheap⟩:=h2 hq;refine zAW hgu (zAo (by intro c e;rw [e] at hgc;cases hgc) hrun ?_);refine zR1 R l (fun o' ho'=>hall o' (by simp [ho'])) ⟨hgb,?_,h.at_,?_,Nat.lt_of_lt_of_le h.lt hsz⟩ hk' hQ
        ·rw [hdst];exact h.hp
        ·rw [hdst,zH7 hd1,zH7 hd2,hheap _ h.lt];exact h.pi
       ·cases hcs
      split at hk
      ·rename_i st' hcs;rw [St.force_eq] at hk;exact (go hcs).2 trivial hk
      ·rename_i p' st' hcs;have hk:=hk.out ((go hcs).1);rw [St.force_eq] at hk;exact (go hcs).2 trivial hk
      ·rename_i q' st' hcs;obtain ⟨k1,k2⟩:=hk.out;rw [St.force_eq] at k2;exact (go hcs).2 k1 k2
      ·rename_i p' q' st' hcs;obtain ⟨k1,k2⟩:=(hk.out ((go hcs).1)).out;rw [St.force_eq] at k2;exact (go hcs).2 k1 k2
      ·exact hk.elim
     ·exact hk.elim
    ·exact hk.elim
structure GK (P:Program) (T:Tab) (I κ:Sig) (M:yN) (st:St) (w:World) (mt:TypeId) (vx vk:Value) (id:Nat) (kc:List AS) (ob:Ob) (kt u:TypeId) (k e:ETy) (m:List (k.T×List e.T)) (q:k.T) (p:Bk) (es:Array MapEntry) (clock:Nat):Prop where
 desc:T.desc mt= .map kt u
 ok:zFK P kt u k (.sl e)
 get:hget st.hp id=some (.gmap k e m)
 dec:k.dec kc=some q
 key:jI κ k q vk.cells.toList
 kv:vk=yY k vk.cells.toList
 at_:M[id]? =some (some p)
 vx:vx= .map (some p.b)
 heap:w.heap[p.b]? =some (.map es clock)
 mat:MapAt I k (.sl e) m es
 nodup:(m.map (·.1)).Nodup
 fr:zAi I w p.b e.size (es.toList.map (·.val))
 stp:MapKept.Stamped es clock
 zero: ∀ w:World,(zeroValue u).run P w= .ok (.slice none 0 0) w
 ob:ob= .gmap k e (zAg k m q ((zA3 k m q).getD []))
theorem zIN (R:zAS P T) (h:GG B I M st tmps w) {κ κ':Sig} {mt:TypeId} {x key:AV} {vx vk:Value} (hx:qA κ' M x vx) (hk:qA κ M key vk) {id:Nat} {kc:List AS} {ob:Ob} (he:zVQ T mt st x key=some (id,kc,ob)) :
 ∃ kt u k e m q p es clock,GK P T I κ M st w mt vx vk id kc ob kt u k e m q p es clock:=by
 unfold zVQ at he;split at he
 ·rename_i id' kc' kt u hkc hdc;split at he
  ·rename_i ki ui k e m hki hui hid;split at he
   ·rename_i q hchk hdec;cases he;simp only [zA,beq_iff_eq] at hchk;obtain ⟨⟨c1,c2⟩,c3⟩:=hchk;have c1:=zB2 c1;have c2:=zB2 c2;have hMO:=R.maps _ _ _ hdc _ _ _ _ hki hui c1 c2;have hkey:=ETy.dec_sound hdec (zBW hk hkc);have hkv:=zDx hk hkc c3 hkey.length;obtain ⟨hn,p,es,clock,q1,q2,q3,q4,q5,q6⟩:=h.mem.ob _ _ hid;obtain ⟨p',q1',rfl,_⟩:=hx;rw [q1] at q1';cases q1';obtain ⟨i,z,hi,_,_,hz,_⟩:=(R.ty _ _ hui).get
    have hz':=hMO.zero i hi;rw [hz] at hz';refine ⟨kt,u,k,e,m,q,p,es,clock,hdc,hMO,hid,hdec,hkey,hkv,q1,rfl,q2,⟨q3,q4⟩,hn,q5,q6,fun w=> ?_,rfl⟩;simp only [zeroValue,typeInfo,zN,run_program,zL,hi,qD,hz];rw [Option.some.inj hz'];rfl
   ·cases he
  ·cases he
 ·cases he
theorem zBC {t:Tmp} {v:Value} (hlt:t<a.tmps.size):((a.put (some t) v).tmps).getD t undef=v:=by
 show (a.tmps.setIfInBounds t v).getD t undef=_;rw [zOq _ _ _ _ hlt,if_pos rfl]
theorem zTs (R:zAS P T) (h:GA B N st a w) {l:List Oper} (hall: ∀ o∈l,y4 N o=true) {g:zMJ} {st1:St} {rest:List Oper} (hs:zUM T l st=some (g,st1,rest))
 (hK: ∀ M p a1 w1,z1w B N M g st1.hp p st1 a1 w1->(∀ o∈rest,y4 N o=true)->wpListIn (FR r) n P ops Q rest a1 w1):wpListIn (FR r) n P ops Q l a w:=by
 obtain ⟨I,M,hg⟩:=h.gg
 have ops_rep: ∀ o∈l,∀ x∈o.op.operands,qA I M (jW st.env x) (a.eval x):=fun o ho x hx=>by
  have:=hall o ho;simp only [y4,zA,zO] at this;exact jY hg (this.2 x (by simpa using hx))
 unfold zUM at hs;split at hs
 ·-- a look-up
  rename_i t mt x kx ty pos after rest';split at hs
  ·rename_i id kc ob hk;cases hs;have hrep:=ops_rep _ zQ;obtain ⟨kt,u,k,e,m,q,p,es,clock,G⟩:=zIN R hg (hrep x (by simp [Op.operands])) (hrep kx (by simp [Op.operands])) hk;have hd:zBM (some t) a.tmps:=zAp (o:=⟨some t,.lookup mt x kx false,ty,pos,after,none⟩) h.size (hall _ (by simp));have hdesc:=R.ty.desc (w:=w) G.desc (by simp);have hget:=MapKept.run_getObj_map (P:=P) G.heap;have hchk:=G.ok.key.check w es.isEmpty G.key
   have hf:=zDq (w:=w) G.ok.key G.mat G.key;rw [<- G.kv] at hchk hf
   have fin: ∀ {v:Value},(Instr.lookup mt (a.eval x) (a.eval kx) false).run P w= .ok v w->((∀ en∈es.toList,en.key≠a.eval kx)/\v= .slice none 0 0\/∃ (j:Nat) (en:MapEntry),es[j]? =some en/\en.key=a.eval kx/\en.val=v)->
    wpListIn (FR r) n P ops Q (⟨some t,.lookup mt x kx false,ty,pos,after,none⟩::rest) a w:=by
    intro v hrun hv;refine zAW rfl (zAo (v:=v) (w':=w) (by intro c e;cases e) (by simp [execOp,hrun]) ?_);refine hK M p _ _ ⟨zCt h.defers h.size ⟨I,hg.put hd (a:= .junk) trivial⟩,rfl,G.at_,?_,(h.gg.elim fun _ _=>(hg.mem.ob _ _ G.get).lt G.at_)⟩ fun o ho=>hall o (by simp [ho]);refine ⟨k,e,m,q,_,I,es,clock,G.get,G.dec,G.key,G.heap,?_⟩;rw [<- G.kv,zBC (hd t rfl)];exact hv
   rcases hf with ⟨h1,h2⟩|⟨j,en,y,dv,h1,h2,h3,h4,h5,h6⟩
   ·refine fin (v:= .slice none 0 0) ?_ (.inl ⟨fun en hen he=> ?_,rfl⟩)
    ·rw [G.vx];simp only [Instr.lookup,zN,hdesc,zL,qD,hget];simp [hchk,h1,G.zero]
    ·obtain ⟨i,hi,rfl⟩:=yG.1 hen;have hi':i<m.length:=by rw [<- G.mat.1];simpa using hi
     obtain ⟨en',dk',dv',e1,e2,e3,_⟩:=G.mat.2 i _ (zB hi');have:es.toList[i]? =some en':=by rw [zJ];exact e1
     rw [zB hi] at this;cases this;rw [he,G.kv] at e3;exact h2 _ (y6 hi') ((G.ok.key.inj G.key e2).1 e3).symm
   ·refine fin (v:=en.val) ?_ (.inr ⟨j,en,h2,h3,rfl⟩);rw [G.vx];simp only [Instr.lookup,zN,hdesc,zL,qD,hget];simp [hchk,h1]
  ·cases hs
 ·-- an entry
  rename_i hh mt x kx ty pos after t h' ty2 pos2 after2 rest';split at hs
  ·rename_i id kc ob hk hhh hht;cases hs;obtain rfl:=zC hhh;have hne:hh≠t:=by rintro rfl;rw [qF] at hht;cases hht
   have hrep:=ops_rep _ zQ;obtain ⟨kt,u,k,e,m,q,p,es,clock,G⟩:=zIN R hg (hrep x (by simp [Op.operands])) (hrep kx (by simp [Op.operands])) hk;have hd:zBM (some hh) a.tmps:=zAp (o:=⟨some hh,.mapEntry mt x kx,ty,pos,after,none⟩) h.size (hall _ (by simp));have hd2:zBM (some t) a.tmps:=zAp (o:=⟨some t,.extract (.tmp hh) 0,ty2,pos2,after2,none⟩) h.size (hall _ (by simp));have hdesc:=R.ty.desc (w:=w) G.desc (by simp)
   have hget:=MapKept.run_getObj_map (P:=P) G.heap;have hchk:=G.ok.key.check w false G.key;have hf:=zDq (w:=w) G.ok.key G.mat G.key;have hstay:=G.ok.key.stays w G.key;have runSet: ∀ o',(setObj p.b o').run P w= .ok () {w with heap:=w.heap.setIfInBounds p.b o'} :=fun o'=>MapKept.run_setObj_map o' G.heap;rw [<- G.kv] at hchk hf hstay;have hsep:=hg.sep _ _ _ G.get G.at_
   have fin: ∀ {es':Array MapEntry} {clock' j:Nat} {en:MapEntry},(Instr.mapEntry mt (a.eval x) (a.eval kx)).run P w= .ok (.tuple #[en.val,goInt en.born]) {w with heap:=w.heap.setIfInBounds p.b (.map es' clock')}->
    MapAt I k (.sl e) (zAg k m q ((zA3 k m q).getD [])) es'->MapKept.Stamped es' clock'->zAi I w p.b e.size (es'.toList.map (·.val))->es'[j]? =some en->en.key=a.eval kx->
    wpListIn (FR r) n P ops Q (⟨some hh,.mapEntry mt x kx,ty,pos,after,none⟩::⟨some t,.extract (.tmp hh) 0,ty2,pos2,after2,none⟩::rest) a w:=by
    intro es' clock' j en hrun hm' hst' hfr' hj hk';obtain ⟨g1,g2⟩:=MapKept.heap_set (o':= .map es' clock') G.heap;have none_of: ∀ b o,I b=some o->b≠p.b:=fun b o e=>by rintro rfl;rw [hsep.1] at e;cases e
    have hob:zAt I M {w with heap:=w.heap.setIfInBounds p.b (.map es' clock')} id (.gmap k e (zAg k m q ((zA3 k m q).getD []))) :=
     ⟨zE9 _ G.nodup,p,es',clock',G.at_,g1,hm'.1,hm'.2,hfr'.keep (fun _ _ e=>e) (fun b o e=>g2 b (none_of b o e)),hst'⟩
    have hbl:Below B.w.heap.size w {w with heap:=w.heap.setIfInBounds p.b (.map es' clock')} :=⟨⟨rfl,rfl,rfl,by simp,fun k hk=>g2 k (by have:=hsep.2.1;omega)⟩,zI _⟩;have hg1:=hg.turn G.get G.at_ (fun k hk=>g2 k hk) hbl hob;have hg2:=hg1.put hd (a:= .junk) (v:= .tuple #[en.val,goInt en.born]) trivial;have hd2':zBM (some t) (zHM a.tmps (some hh) (.tuple #[en.val,goInt en.born])):=by intro t' e;cases e;rw [q9];exact hd2 t rfl
    have hg3:=hg2.put hd2' (a:= .junk) (v:=en.val) trivial;have hh1:(a.put (some hh) (.tuple #[en.val,goInt en.born])).tmps.getD hh undef= .tuple #[en.val,goInt en.born]:=zBC (hd hh rfl);refine zAW rfl (zAo (v:= .tuple #[en.val,goInt en.born]) (w':= {w with heap:=w.heap.setIfInBounds p.b (.map es' clock')}) (by intro c e;cases e) (by simp [execOp,hrun]) ?_);refine zAW rfl (zAo (v:=en.val) (w':= {w with heap:=w.heap.setIfInBounds p.b (.map es' clock')}) (by intro c e;cases e) ?_ ?_)
    ·have:(a.put (some hh) (.tuple #[en.val,goInt en.born])).eval (.tmp hh)= .tuple #[en.val,goInt en.born]:=hh1;simp [execOp,this,Instr.extract]
    ·rw [G.ob] at hK;refine hK M p _ _ ⟨⟨?_,?_,I,hg3⟩,rfl,G.at_,?_,?_⟩ fun o ho=>hall o (by simp [ho])
     ·simp [put_defers,h.defers]
     ·simp only [j9,q9,h.size]
     ·obtain ⟨y,hy⟩: ∃ y,(zAg k m q ((zA3 k m q).getD []))[j]? =some (q,y):=by
       have hjl:=(zR.1 hj).1;rw [hm'.1] at hjl;obtain ⟨en',dk',dv',e1,e2,e3,_⟩:=hm'.2 j _ (zB hjl);rw [hj] at e1;cases e1;have hkq:q=((zAg k m q ((zA3 k m q).getD []))[j]).1:=(G.ok.key.inj G.key e2).1 (by rw [<- e3,hk',<- G.kv]);exact ⟨((zAg k m q ((zA3 k m q).getD []))[j]).2,by rw [zB hjl];exact congrArg some (Prod.ext hkq.symm rfl)⟩
      refine ⟨k,e,zAg k m q ((zA3 k m q).getD []),q,_,I,es',clock',j,en,?_,G.dec,G.key,g1,hj,by rw [hk',<- G.kv],?_,?_,y,hy⟩
      ·show Vm.hget (zBZ st.hp id _) id=_;rw [zAx ⟨_,G.get⟩,if_pos rfl]
      ·rw [zBC (by rw [j9,q9];exact hd2 t rfl)]
      ·rw [zBC (by rw [j9,q9];exact hd2 t rfl),zH7 (Ne.symm hne)];exact hh1
     ·simp only [Array.size_setIfInBounds];exact (hg.mem.ob _ _ G.get).lt G.at_
   have hzero:jI I (.sl e) ([]:List e.T) [.slice none 0 0]:=⟨none,0,rfl,by simp,by simp,fun h=>(h rfl).elim⟩
   have habs:(∀ p∈m,p.1≠q)->∀ en∈es.toList,en.key≠yY k (a.eval kx).cells.toList:=by
    intro h2 en hen he;obtain ⟨i,hi,rfl⟩:=yG.1 hen;have hi':i<m.length:=by rw [<- G.mat.1];simpa using hi
    obtain ⟨en',dk',dv',e1,e2,e3,_⟩:=G.mat.2 i _ (zB hi');have:es.toList[i]? =some en':=by rw [zJ];exact e1
    rw [zB hi] at this;cases this;rw [he] at e3;exact h2 _ (y6 hi') ((G.ok.key.inj G.key e2).1 e3).symm
   rcases hf with ⟨h1,h2⟩|⟨j,en,y,dv,h1,h2,h3,h4,h5,h6⟩
   ·obtain ⟨m1,m2⟩:=zU4 G.mat G.stp G.key (habs h2) hzero;rw [<- G.kv] at m1 m2;have hgn:=zC8 h2;refine fin (es':=es.push {key:=a.eval kx,val:= .slice none 0 0,born:=clock}) (clock':=clock+1) (j:=es.size) (en:= {key:=a.eval kx,val:= .slice none 0 0,born:=clock}) ?_ ?_ m2 ?_ (by simp) rfl
    ·rw [G.vx];simp only [Instr.mapEntry,zN,hdesc,zL,hget,hchk,h1,G.zero,runSet,qD]
    ·rw [hgn.1,hgn.2];exact m1
    ·rw [Array.toList_push,zA8];exact zJq G.fr
   ·have hmem:=yP h4;have hgm:=zDw G.nodup h4;have hkeep:((es[j]?).map (·.key)).getD (a.eval kx)=a.eval kx:=by rw [h2];exact h3
    have hval:jI I (.sl e) y dv:=h5;obtain ⟨m1,m2,m3⟩:=zRr (f:=fun e=> {e with key:=a.eval kx,val:=en.val}) G.mat G.stp G.key h2 (by rw [h3,<- G.kv]) hval (fun e'=>⟨rfl,.inr G.kv,h6⟩)
    have hmod:es.modify j (fun e=> {e with key:=a.eval kx})=es.modify j (fun e=> {e with key:=a.eval kx,val:=en.val}):=by
     apply Array.ext_getElem?;intro i;rw [Array.getElem?_modify,Array.getElem?_modify];split
     ·rename_i e';subst e';rw [h2];rfl
     ·rfl
    have hself:(es.toList.map (·.val)).set j (yY (.sl e) dv)=es.toList.map (·.val):=by
     apply List.ext_getElem?;intro i;rw [qI];split
     ·rename_i e';subst e';rw [<- h6];have hlt:=(zR.1 h2).1;rw [if_pos (by simpa using hlt),zAB,zJ,h2];rfl
     ·rfl
    refine fin (es':=es.modify j (fun e=> {e with key:=a.eval kx,val:=en.val})) (clock':=clock) (j:=j) (en:=en) ?_ ?_ m2 ?_ ?_ h3
    ·rw [G.vx,<- hmod];simp only [Instr.mapEntry,zN,hdesc,zL,hget,hchk,h1,h2,h3,Option.map_some,qL,hstay,runSet,qD]
    ·rw [hgm.1,qL,hgm.2];exact m1
    ·rw [m3,hself];exact G.fr
    ·rw [Array.getElem?_modify,if_pos rfl,h2];simp [<- h3]
  ·cases hs
 ·-- a cell
  rename_i t et x ty pos after rest';split at hs
  ·rename_i id i ti hx hti;split at hs
   ·rename_i e u xss hid hag hsz;cases hs;have hd:zBM (some t) a.tmps:=zAp (o:=⟨some t,.load et x,ty,pos,after,none⟩) h.size (hall _ (by simp));have hrx:=ops_rep _ zQ x (by simp [Op.operands]);rw [hx] at hrx;obtain ⟨p,hp,hv,hi⟩:=hrx;obtain ⟨h0,p',q1,q2,q3,q4,c,q5,q6,q7,q8⟩:=hg.mem.ob _ _ hid;rw [hp] at q1;cases q1;have hil:i<xss.length:=by omega
    obtain ⟨v,e1,e2⟩:=q7 i _ (zB hil);have hsz:=zC hsz;have hv':a.eval x= .pointer (some ⟨p.b,p.o+i,none⟩):=by rw [hv,q2];simp
    obtain ⟨val,hrun,_,hval⟩:=zBm (P:=P) (w:=w) (b:=p.b) (o:=p.o+i) (R.ty _ _ hti) (ds:=[v]) (by simp [hsz]) (fun j d hj=>by
     cases j with
     | zero=>simp at hj;subst hj;rw [zAD q5];exact e2
     | succ j=>simp at hj) (fun _=>hsz)
    have:=hval hag;cases this;refine zAW rfl (zAo (v:=v) (w':=w) (by intro c e;cases e) (by simp [execOp,hv',zB6,hrun]) ?_);refine hK M p _ _ ⟨zCt h.defers h.size ⟨I,hg.put hd (a:= .junk) trivial⟩,rfl,hp,?_,(hg.mem.ob _ _ hid).lt hp⟩ fun o ho=>hall o (by simp [ho]);exact ⟨e,u,xss,i,c,hid,rfl,hil,q5,by rw [zBC (hd t rfl)];exact e2⟩
   ·cases hs
  ·cases hs
 ·cases hs
end
end Go.Vm
namespace Go.Vm
open Go.RowKit
section
variable {P:Program} {B:Base} {w w':World} {I τ:Sig} {M:yN} {st:St} {tmps:Array Value} {T:Tab} {N:Nat} {a:Act} {r:Option Nat} {n:Nat} {ops:Array Oper} {Q:Exit->Act->World->Prop}
theorem zTZ (h:Mem I M st.hp w) {av:AV} {y:Value} (ha:qA I M av y) {e:ETy} {ts:List TypeId} {b:Nat} {ys:List e.T} (hs:z15 T e ts av st.hp=some (b,ys)) :
 ∃ t u ui,ts=[t,t]/\T.desc t= .slice u/\T.info u=some ui/\ui.bytes=b/\ui.bytes≠0/\ui.size=e.size/\ui.size≠0/\ys≠[]/\
   ∃ ao c,y= .slice ao ys.length c/\(ys≠[]->∃ ad,ao=some ad/\∃ dss,jZ (jI I e) ys dss/\∀ (j:Nat) (u:Value),dss.flatten[j]? =some u->w.cell? (ad.add j)=some u):=by
 unfold z15 at hs;split at hs
 ·rename_i t t' e' y0 ys0 hv;split at hs
  ·rename_i u hee htt hdc _;subst hee;split at hs
   ·rename_i ui hui;split at hs
    ·rename_i hbz hsz hsz0;cases hs;obtain rfl:=zC htt;obtain ⟨ao,c,h1,_,h2⟩:=zIG h ha hv;exact ⟨t,u,ui,rfl,hdc,hui,rfl,(by intro e;rw [e] at hbz;cases hbz),zC hsz,(by intro e;rw [e] at hsz0;cases hsz0),by simp,ao,c,h1,h2⟩
    ·cases hs
   ·cases hs
  ·cases hs
 ·cases hs
theorem z2i (R:zAS P T) (hg:GG B I M st a.tmps w) {id:Nat} {ob:Ob} {p:Bk} (hst:zFx id st.hp=true) (hid:hget st.hp id=some ob) (hp:M[id]? =some (some p)) {v:Value} {e:ETy} {xs:List e.T}
 (hv:jI I (.sl e) xs [v]) (hf:zDs I w p.b e.size v) {oA:Oper} {x y:Operand} {d:Tmp} (hA:zJQ oA=some (x,y,d)) (hx:a.eval x=v) (hoA:y4 N oA=true)
 {b:Nat} {ys:List e.T} (hsrc:z15 T e (zS9 oA) (jW st.env y) st.hp=some (b,ys)) (hfit:zB8 xs.length ys.length b) :
 ∃ v' w1 τ,(execOp a.eval oA).run P w= .ok (.value v') w1/\GG B τ M {st with hp:=zDb st.hp id} a.tmps w1/\I.le τ/\jI τ (.sl e) (xs++ys) [v']/\zDs τ w1 p.b e.size v'/\
   (∀ b o,I b=some o->(∀ o2 n c,v≠.slice (some ⟨b,o2,none⟩) n c)->τ b=some o/\w1.heap[b]? =w.heap[b]?)/\w1.heap[p.b]? =w.heap[p.b]? /\τ p.b=none/\
   (∀ b o2 n c,v'= .slice (some ⟨b,o2,none⟩) n c->b=w.heap.size\/∃ o3 n3 c3,v= .slice (some ⟨b,o3,none⟩) n3 c3):=by
 obtain ⟨hgu,hds,ts,hop⟩:=zDQ hA
 have hy:qA I M (jW st.env y) (a.eval y):=by
  simp only [y4,zA,zO] at hoA;exact jY hg (hoA.2 y (by simp [hop,Op.operands,Call.operands]))
 obtain ⟨t,u,ui,e1,e2,e3,e4,e5,e6,e7,e8,ao,c,e9,e10⟩:=zTZ (st:=st) hg.mem hy hsrc
 have hts:ts= #[t,t]:=by
  have:zS9 oA=ts.toList:=by simp [zS9,hop]
  rw [this] at e1;rw [<- Array.toArray_toList (xs:=ts),e1]
 subst hts;have hsep:=hg.sep _ _ _ hid hp;obtain ⟨v',w1,τ,f1,f2,f3,f4,f5,f6,f7,f8,f9⟩:=zMz R.ty (hg.drop id) (zJe.drop hst) hsep.2.1 ((hg.mem.ob _ _ hid).lt hp) hv hf ⟨ao,c,e9,e10⟩ e8 oA.type e2 e3 e6 e7 e5 (by rw [e4];exact hfit);refine ⟨v',w1,τ,?_,f2,f3,f4,f5,f6,(f7 _ ((hg.mem.ob _ _ hid).lt hp) hsep.1).1,(f7 _ ((hg.mem.ob _ _ hid).lt hp) hsep.1).2,f8⟩;rw [<- hx] at f1;simp [execOp,hop,resolve,invoke,builtin,f1]
theorem MapAt.mono {k v:ETy} {m:List (k.T×v.T)} {es:Array MapEntry} (hs:I.le τ) (h:MapAt I k v m es):MapAt τ k v m es :=
 ⟨h.1,fun i x hx=>let ⟨en,dk,dv,e1,e2,e3,e4,e5⟩:=h.2 i x hx;⟨en,dk,dv,e1,e2.mono hs,e3,e4.mono hs,e5⟩⟩
theorem zTQ {e:ETy} {xs:List e.T} {dv:List Value} (h:jI I (.sl e) xs dv):dv=[yY (.sl e) dv]:=by
 have:=h.length
 match dv,this with
 | [v],_=>rfl
theorem zXV {k e:ETy} {m:List (k.T×List e.T)} {es:Array MapEntry} (hmat:MapAt I k (.sl e) m es) (hn:(m.map (·.1)).Nodup) {base:Nat} (hF:zAi I w base e.size (es.toList.map (·.val))) {j:Nat} {q:k.T} {y:List e.T} {en:MapEntry}
 (hm:m[j]? =some (q,y)) (hj:es[j]? =some en):jI I (.sl e) ((zA3 k m q).getD []) [en.val]/\zDs I w base e.size en.val/\(es.toList.map (·.val))[j]? =some en.val:=by
 obtain ⟨en',dk,dv,e1,e2,e3,e4,e5⟩:=hmat.2 j _ hm;rw [hj] at e1;cases e1;have hval:(es.toList.map (·.val))[j]? =some en.val:=by rw [zAB,zJ,hj];rfl
 refine ⟨?_,hF.1 _ (yP hval),hval⟩;rw [(zDw hn hm).1,e5,<- zTQ e4];exact e4
theorem z0u {mt:TypeId} {x key:AV} {id:Nat} {kc:List AS} {ob:Ob} (he:zVQ T mt st x key=some (id,kc,ob)):x= .s (.omp id):=by
 unfold zVQ at he;split at he
 ·split at he
  ·split at he
   ·cases he;rfl
   ·cases he
  ·cases he
 ·cases he
theorem zNQ {id:Nat} {k e:ETy} {m m':List (k.T×List e.T)} {p:Bk} (hid:hget st.hp id=some (.gmap k e m)) (hp:M[id]? =some (some p)) {tmps0:Array Value} {st0:St} (hg:GG B I M st0 tmps0 w) (hst0:st0.hp=st.hp)
 {w1:World} (h1:GG B τ M {st with hp:=zDb st.hp id} tmps w1) (hτ:τ p.b=none) {es es':Array MapEntry} {clock clock':Nat} (hb:w1.heap[p.b]? =some (.map es clock))
 (hm:MapAt τ k (.sl e) m' es') (hn:(m'.map (·.1)).Nodup) (hS:MapKept.Stamped es' clock') (hF:zAi τ w1 p.b e.size (es'.toList.map (·.val))) :
 GG B τ M {st with hp:=zBZ st.hp id (.gmap k e m')} tmps {w1 with heap:=w1.heap.setIfInBounds p.b (.map es' clock')} :=by
 have hid0:hget st0.hp id=some (.gmap k e m):=by rw [hst0];exact hid
 have hsep:=hg.sep _ _ _ hid0 hp;obtain ⟨g1,g2⟩:=MapKept.heap_set (o':= .map es' clock') hb;have none_of: ∀ b o,τ b=some o->b≠p.b:=fun b o e=>by rintro rfl;rw [hτ] at e;cases e
 refine GG.readd hid h1 hp (fun k hk=>g2 k hk) ⟨⟨rfl,rfl,rfl,by simp,fun k hk=>g2 k (by have:=hsep.2.1;omega)⟩,zI _⟩ hτ hsep.2.1 (fun id' ob' p' hne hi hp'=> ?_) ?_
 ·exact hsep.2.2 _ _ _ hne (by rw [hst0];exact hi) hp'
 ·exact ⟨hn,p,es',clock',hp,g1,hm.1,hm.2,hF.keep (fun _ _ e=>e) (fun b o e=>g2 b (none_of b o e)),hS⟩
theorem zJL {mt:TypeId} {b:Nat} {es:Array MapEntry} {clock:Nat} (hb:w.heap[b]? =some (.map es clock)) (hS:MapKept.Stamped es clock) {j:Nat} {en:MapEntry} (hj:es[j]? =some en) (val:Value) :
 (Instr.entryStore mt (.map (some b)) (goInt en.born) val).run P w= .ok () {w with heap:=w.heap.setIfInBounds b (.map (es.modify j fun e=> {e with val:=val}) clock)} :=by
 have hidx:es.findIdx? (fun e=>((e.born:Nat):Int)==((en.born:Nat):Int))=some j:=by
  rw [WideElems.findIdx_arr];exact WideElems.findIdx_born hS.2.1 (by rw [zJ];exact hj)
 simp [Instr.entryStore,MapKept.run_getObj_map hb,asInt,asIntOf,goInt,hidx,MapKept.run_setObj_map _ hb,Result.andThen]
theorem z0G (R:zAS P T) {mt:TypeId} {x key:AV} {id:Nat} {kc:List AS} {ob:Ob} (he:zVQ T mt st x key=some (id,kc,ob)) {k e:ETy} {m:List (k.T×List e.T)} (hid:hget st.hp id=some (.gmap k e m)): ∃ kt u,zFK P kt u k (.sl e):=by
 unfold zVQ at he;split at he
 ·rename_i id' kc' kt u hkc hdc;split at he
  ·rename_i ki ui k' e' m' hki hui hid';split at he
   ·rename_i q hchk hdec;cases he;rw [hid] at hid';cases hid';simp only [zA,beq_iff_eq] at hchk;obtain ⟨⟨c1,c2⟩,c3⟩:=hchk;exact ⟨_,_,R.maps _ _ _ hdc _ _ _ _ hki hui (zB2 c1) (zB2 c2)⟩
   ·cases he
  ·cases he
 ·cases he
theorem z1g {kt u:TypeId} {k e:ETy} (hMO:zFK P kt u k (.sl e)) {m:List (k.T×List e.T)} {es:Array MapEntry} (hmat:MapAt I k (.sl e) m es) (hn:(m.map (·.1)).Nodup) {base:Nat} (hF:zAi I w base e.size (es.toList.map (·.val)))
 {q:k.T} {dk:List Value} {σ0:Sig} (hkey:jI σ0 k q dk) {v:Value} (h:(∀ en∈es.toList,en.key≠yY k dk)/\v= .slice none 0 0\/∃ (j:Nat) (en:MapEntry),es[j]? =some en/\en.key=yY k dk/\en.val=v) :
 jI I (.sl e) ((zA3 k m q).getD []) [v]/\zDs I w base e.size v/\((∀ en∈es.toList,en.key≠yY k dk)/\(∀ x∈m,x.1≠q)/\v= .slice none 0 0\/∃ (j:Nat) (en:MapEntry),es[j]? =some en/\en.key=yY k dk/\en.val=v/\∃ y,m[j]? =some (q,y)):=by
 rcases h with ⟨h1,rfl⟩|⟨j,en,h1,h2,rfl⟩
 ·have h2: ∀ x∈m,x.1≠q:=by
   rintro x hx rfl;obtain ⟨i,hi,rfl⟩:=yG.1 hx;obtain ⟨en,dk',dv',e1,e2,e3,_⟩:=hmat.2 i _ (zB hi);exact h1 en (by rw [<- zJ] at e1;exact yP e1) (by rw [e3];exact ((hMO.key.inj hkey e2).2 rfl).symm)
  refine ⟨?_,.inl rfl,.inl ⟨h1,h2,rfl⟩⟩;rw [(zC8 h2).1];exact ⟨none,0,rfl,by simp,by simp,fun h=>(h rfl).elim⟩
 ·have hjl:=(zR.1 h1).1;rw [hmat.1] at hjl;obtain ⟨en',dk',dv',e1,e2,e3,_⟩:=hmat.2 j _ (zB hjl);rw [h1] at e1;cases e1;have hkq:q=(m[j]).1:=(hMO.key.inj hkey e2).1 (by rw [<- e3,h2]);have hm:m[j]? =some (q,(m[j]).2):=by rw [zB hjl];exact congrArg some (Prod.ext hkq.symm rfl)
  obtain ⟨g1,g2,_⟩:=zXV hmat hn hF hm h1;exact ⟨g1,g2,.inr ⟨j,en,h1,h2,rfl,_,hm⟩⟩
theorem eval_put_ne {d t:Tmp} {v:Value} (hne:d≠t):(a.put (some d) v).eval (.tmp t)=a.eval (.tmp t):=zH7 hne
theorem eval_put_same {t:Tmp} {v:Value} (hlt:t<a.tmps.size):(a.put (some t) v).eval (.tmp t)=v:=zBC hlt
theorem zJS {hp hp':zAG} (h: ∀ id,hgp hp' id=hgp hp id) {t:TypeId} {x i:AV} {lit:Bool} :zAl T t hp' x i lit=zAl T t hp x i lit:=by
 unfold zAl;simp only [h]
theorem zDs.cells {base sz:Nat} {v:Value} (h:zDs I w base sz v):v.cells.toList=[v]/\v.oneCell'=true:=by
 rcases h with rfl|⟨b,o,n,cap,c,c',T,rfl,_⟩<;>exact ⟨rfl,rfl⟩
theorem zYP (R:zAS P T) {g:zMJ} {hp0:zAG} {p:Bk} (h:z1w B N M g hp0 p st a w) {oA:Oper} {r2:List Oper} (hall: ∀ o∈oA::r2,y4 N o=true) {q:Prop} {st3:St} {r3:List Oper}
 (he:z2n T g oA r2 st=some (q,st3,r3)) (hq:q) (hK: ∀ a3 w3,GA B N st3 a3 w3->(∀ o∈r3,y4 N o=true)->wpListIn (FR r) n P ops Q r3 a3 w3):wpListIn (FR r) n P ops Q (oA::r2) a w:=by
 obtain ⟨I,hg⟩:=h.gb.gg;have hpi:=h.pi;have hoA:=hall oA (by simp);unfold z2n at he;split at he
 case h_2=>cases he
 rename_i t y s hA hst;obtain ⟨hgu,hds,ts,hop⟩:=zDQ hA;have nodef: ∀ c,oA.op≠.defer c:=by intro c e;rw [hop] at e;cases e
 have hds':zBM (some s) a.tmps:=by rw [<- hds];exact zAp h.gb.size hoA
 have hsl:s<a.tmps.size:=hds' s rfl;split at he
 ·-- a map
  rename_i k e m htt hsh hid;obtain rfl:=zC htt;have hne:s≠g.h:=by rintro rfl;rw [qF] at hsh;cases hsh
  have hid0:hget hp0 g.id=some (.gmap k e m):=by rw [<- h.hp];exact hid
  obtain ⟨hn,p',es,clock,q1,q2,q3,q4,hF,hS⟩:=hg.mem.ob _ _ hid;rw [h.at_] at q1;cases q1;have hmat:MapAt I k (.sl e) m es:=⟨q3,q4⟩;split at he
  case h_2=>cases he
  rename_i qk b ys hdec hsrc;split at he
  ·-- laid back by an update
   rename_i d mt x kx s' ty pos aft r' hgk;split at he
   case h_2=>cases he
   rename_i id kc ob id' hk hss hxs;split at he
   case h_2=>cases he
   rename_i q' hdec' hid1 hid2;cases he;obtain ⟨hfit,rfl⟩:=hq;obtain rfl:=zC hid1;obtain rfl:=zC hid2;obtain rfl:=zC hss;simp only [PI,hgk] at hpi;obtain ⟨k0,e0,m0,qp,dk,σ0,es0,clock0,p1,p2,p3,p4,p5⟩:=hpi;rw [hid0] at p1;cases p1;rw [hdec] at p2;cases p2;rw [q2] at p4;cases p4;obtain ⟨kt',u',hMO⟩:=z0G R hk hid;obtain ⟨hv,hf,hwhere⟩:=z1g hMO hmat hn hF p3 p5;obtain ⟨v',w1,τ,f1,f2,f3,f4,f5,f6,f7,f8,f9⟩:=z2i R hg hst hid h.at_ hv hf hA rfl hoA hsrc hfit
   have hg1:=f2.put hds' (a:= .junk) (v:=v') trivial;have hoU:=hall _ (zM _ zQ)
   have hd2:zBM d (zHM a.tmps (some s) v'):=fun t' e'=>by
    have:=zAp (o:=⟨d,.mapUpdate mt x kx (.tmp s),ty,pos,aft,none⟩) h.gb.size hoU t' e';rw [q9];exact this
   have rep: ∀ z∈[x,kx],qA τ M (jW ((s,.junk)::st.env) z) ((a.put (some s) v').eval z):=fun z hz=>by
    simp only [y4,zA,zO] at hoU;refine jY (a:=a.put (some s) v') (st:=({st with hp:=zDb st.hp g.id} :St).put (some s) .junk) hg1 (hoU.2 z ?_);simp [Op.operands] at hz ⊢;rcases hz with h|h<;>simp [h]
   have hxr:qA τ M (jW st.env x) ((a.put (some s) v').eval x):=by
    rw [z0u hk];have:=rep x (by simp);rw [hxs] at this;exact this
   obtain ⟨kt,u,k1,e1,m1,q1,p1,es1,clock1,G⟩:=zIN R hg hxr (rep kx (by simp)) hk;have a1:=G.get;rw [hid] at a1;cases a1;have a2:=G.at_;rw [h.at_] at a2;cases a2;have a3:=G.heap;rw [q2] at a3;cases a3;have a4:=G.dec;rw [hdec'] at a4;cases a4;have hb1:w1.heap[p.b]? =some (.map es clock):=by rw [f7];exact q2
   obtain ⟨es',clock',hrun,hcase⟩:=zYY (w:=w1) G.ok R.ty G.desc hb1 (hmat.mono f3) G.key v';have hkk:yY k dk=yY k ((a.put (some s) v').eval kx).cells.toList:=(hMO.key.inj p3 G.key).2 rfl
   have hfin:MapAt τ k (.sl e) (zAg k m q' ((zA3 k m q').getD []++ys)) es'/\MapKept.Stamped es' clock'/\zAi τ w1 p.b e.size (es'.toList.map (·.val)):=by
    rcases hcase with ⟨c1,c2,rfl,rfl⟩|⟨j,en,y',c1,c2,c3,rfl,rfl⟩
    ·obtain ⟨g1,g2⟩:=zU4 (hmat.mono f3) hS G.key c1 f4;refine ⟨by rw [(zC8 c2).2];exact g1,g2,?_⟩;rw [Array.toList_push,zA8];rcases hwhere with ⟨_,_,hnil⟩|⟨j,en,d1,d2,_⟩
     ·rw [hnil] at f6 f9;have:=zEd (v:= .slice none 0 0) (j:=(es.toList.map (·.val)).length) (zJq hF) (by rw [qY (zI _)];simp) hg.mem.ag f6 f5 f9;rw [List.set_append_right _ _ (zI _)] at this;simpa using this
     ·exact (c1 en (by rw [<- zJ] at d1;exact yP d1) (by rw [d2,hkk])).elim
    ·obtain ⟨g1,g2,g3⟩:=zRr (f:=fun e=> {e with key:=yY k ((a.put (some s) v').eval kx).cells.toList,val:=v'}) (hmat.mono f3) hS G.key c1 c2 f4 (fun _=>⟨rfl,.inr rfl,rfl⟩);refine ⟨by rw [(zDw hn c3).2];exact g1,g2,?_⟩;rw [g3];rcases hwhere with ⟨d1,_,_⟩|⟨j',en',d1,d2,d3,_⟩
     ·exact (d1 en (by rw [<- zJ] at c1;exact yP c1) (by rw [c2,hkk])).elim
     ·have hjj:j'=j:=by
       have k1:(es.toList.map (·.key))[j']? =some (yY k dk):=by rw [zAB,zJ,d1,<- d2];rfl
       have k2:(es.toList.map (·.key))[j]? =some (yY k dk):=by rw [zAB,zJ,c1,hkk,<- c2];rfl
       have:=(zG.1 k1).1;have:=(zG.1 k2).1;exact (List.getElem?_inj (by assumption) hS.2.2).1 (k1.trans k2.symm)
      subst hjj;refine zEd hF ?_ hg.mem.ag f6 f5 f9;rw [zAB,zJ,d1,<- d3];rfl
   obtain ⟨m1,m2,m3⟩:=hfin;have h2:=zNQ (st:=st.put (some s) .junk) (tmps:=zHM a.tmps (some s) v') hid h.at_ hg rfl hg1 f8 hb1 m1 (zE9 _ hn) m2 m3;have h3:=h2.put hd2 (a:= .undef) (v:=undef) qA.undef;refine zAW hgu (zAo nodef f1 ?_);rw [hds];refine zAW rfl (zOH (by intro c e;cases e) (w':= {w1 with heap:=w1.heap.setIfInBounds p.b (.map es' clock')}) ?_ ?_)
   ·rw [<- G.kv] at hrun;simp only [execOp,G.vx,eval_put_same hsl];simp [hrun]
   ·exact hK _ _ (zEW (by rw [put_defers];exact h.gb.defers) (by rw [j9,q9];exact h.gb.size) ⟨τ,M,h3⟩) fun o ho=>hall o (by simp [ho])
  ·-- laid back into its entry
   rename_i n2 hx2 ty1 pos1 aft1 d mt x n2' s' ty pos aft r' hgk;split at he
   case h_2=>cases he
   rename_i id hbb hns hxs;split at he
   case h_2=>cases he
   rename_i hid1;cases he;simp only [zA] at hbb;obtain ⟨⟨hb1,hb2⟩,hb3⟩:=hbb;obtain rfl:=zC hb1;obtain rfl:=zC hb2;obtain rfl:=zC hb3;obtain rfl:=zC hid1;have hns':n2≠s:=by rintro rfl;rw [qF] at hns;cases hns
   simp only [PI,hgk] at hpi;obtain ⟨k0,e0,m0,qp,dk,σ0,es0,clock0,j,en,p1,p2,p3,p4,p5,p6,p7,p8,yy,p9⟩:=hpi;rw [hid0] at p1;cases p1;rw [hdec] at p2;cases p2;rw [q2] at p4;cases p4;obtain ⟨hv,hf,hval⟩:=zXV hmat hn hF p9 p5;rw [p7] at hv hf hval;obtain ⟨v',w1,τ,f1,f2,f3,f4,f5,f6,f7,f8,f9⟩:=z2i R hg hst hid h.at_ hv hf hA rfl hoA hsrc hq;have hg1:=f2.put hds' (a:= .junk) (v:=v') trivial;have hoU:=hall _ (zM _ (zM _ zQ))
   have hoX:=hall _ (zM _ zQ)
   have hdn:zBM (some n2) (zHM a.tmps (some s) v'):=fun t' e'=>by
    have:=zAp (o:=⟨some n2,.extract (.tmp g.h) 1,ty1,pos1,aft1,none⟩) h.gb.size hoX t' e';rw [q9];exact this
   have hg2:=hg1.put hdn (a:= .junk) (v:=goInt en.born) trivial
   have hd2:zBM d (zHM (zHM a.tmps (some s) v') (some n2) (goInt en.born)):=fun t' e'=>by
    have:=zAp (o:=⟨d,.entryStore mt x (.tmp n2) (.tmp s),ty,pos,aft,none⟩) h.gb.size hoU t' e';rw [q9,q9];exact this
   have hxr:qA τ M (.s (.omp g.id)) (((a.put (some s) v').put (some n2) (goInt en.born)).eval x):=by
    simp only [y4,zA,zO] at hoU;have:=jY (a:=(a.put (some s) v').put (some n2) (goInt en.born)) (st:=(({st with hp:=zDb st.hp g.id} :St).put (some s) .junk).put (some n2) .junk) hg2 (hoU.2 x (by simp [Op.operands]));rw [<- hxs];exact this
   have hxv:((a.put (some s) v').put (some n2) (goInt en.born)).eval x= .map (some p.b):=by
    obtain ⟨p',e1,e2,_⟩:=hxr;rw [h.at_] at e1;cases e1;exact e2
   have hbw:w1.heap[p.b]? =some (.map es clock):=by rw [f7];exact q2
   obtain ⟨en2,dk2,dv2,t1,t2,t3,_⟩:=hmat.2 j _ p9;rw [p5] at t1;cases t1;obtain ⟨g1,g2,g3⟩:=zRr (f:=fun e=> {e with val:=v'}) (hmat.mono f3) hS (t2.mono f3) p5 t3 f4 (fun _=>⟨rfl,.inl rfl,rfl⟩)
   have hFF:zAi τ w1 p.b e.size ((es.modify j fun e=> {e with val:=v'}).toList.map (·.val)):=by
    rw [g3];exact zEd hF hval hg.mem.ag f6 f5 f9
   rw [<- (zDw hn p9).2] at g1;have h2:=zNQ (st:=(st.put (some s) .junk).put (some n2) .junk) (tmps:=zHM (zHM a.tmps (some s) v') (some n2) (goInt en.born)) hid h.at_ hg rfl hg2 f8 hbw g1 (zE9 _ hn) g2 hFF;have h3:=h2.put hd2 (a:= .undef) (v:=undef) qA.undef;refine zAW hgu (zAo nodef f1 ?_);rw [hds];refine zAW rfl (zAo (v:=goInt en.born) (by intro c e;cases e) (w':=w1) ?_ ?_)
   ·simp only [execOp,eval_put_ne hne];rw [show a.eval (.tmp g.h)= .tuple #[a.tmps.getD g.t undef,goInt en.born] from p8];simp [Instr.extract]
   refine zAW rfl (zOH (by intro c e;cases e) (w':= {w1 with heap:=w1.heap.setIfInBounds p.b (.map (es.modify j fun e=> {e with val:=v'}) clock)}) ?_ ?_)
   ·have hrun:=zJL (P:=P) (mt:=mt) hbw hS p5 v';simp only [execOp,hxv,eval_put_ne hns',eval_put_same hsl,eval_put_same (a:=a.put (some s) v') (t:=n2) (hdn n2 rfl)];simp [hrun]
   ·exact hK _ _ (zEW (by rw [put_defers,put_defers];exact h.gb.defers) (by rw [j9,j9,q9,q9];exact h.gb.size) ⟨τ,M,h3⟩) fun o ho=>hall o (by simp [ho])
  ·cases he
 ·-- a cell
  rename_i e u xss htt hsh hid;obtain rfl:=zC htt;have hid0:hget hp0 g.id=some (.grow e u xss):=by rw [<- h.hp];exact hid
  obtain ⟨h0,p',q1,q2,q3,q4,c,q5,q6,q7,hF⟩:=hg.mem.ob _ _ hid;rw [h.at_] at q1;cases q1;split at he
  case h_2=>cases he
  rename_i i b ys hkc hsrc;split at he
  case h_2=>cases he
  rename_i n1 tt x ix ty1 pos1 aft1 d et n2 s' ty pos aft r' hgk;split at he
  case h_2=>cases he
  rename_i q' id j hbb hns hca;split at he
  case h_2=>cases he
  rename_i hid1 hsz;cases he;obtain ⟨hfit,hq',hjj⟩:=hq;simp only [zA] at hbb;obtain ⟨hb1,hb2⟩:=hbb;obtain rfl:=zC hb1;obtain rfl:=zC hb2;obtain rfl:=zC hid1;have hsz:=zC hsz;have hns':n1≠s:=by rintro rfl;rw [qF] at hns;cases hns
  simp only [PI,hgk] at hpi;obtain ⟨e0,u0,xss0,i',c0,p1,p2,p3,p4,p5⟩:=hpi;rw [hid0] at p1;cases p1;rw [hkc] at p2;cases p2;rw [q5] at p4;cases p4;have hjl:i'<xss.length:=p3;have hin:((i':Int).toNat)=i':=by omega
  rw [hin] at hjj hfit;have hjj:=hjj.symm;subst hjj;obtain ⟨v0,e1,e2⟩:=q7 i' _ (zB hjl);rw [p5] at e2;cases e2
  have hval:((c.toList.drop p.o).take p.L)[i']? =some (a.tmps.getD g.t undef):=by
   rw [yS,if_pos (by omega),jU,zJ];exact p5
  have hgx:xss.getD i' []=xss[i']:=by rw [zH,zB hjl];rfl
  rw [hgx] at hfit;obtain ⟨v',w1,τ,f1,f2,f3,f4,f5,f6,f7,f8,f9⟩:=z2i R hg hst hid h.at_ e1 (hF.1 _ (yP hval)) hA rfl hoA hsrc hfit;have hsep:=hg.sep _ _ _ hid h.at_;have hg1:=f2.put hds' (a:= .junk) (v:=v') trivial;have hoth: ∀ (id':Nat) (ob':Ob) (p':Bk),id'≠g.id->hget st.hp id'=some ob'->M[id']? =some (some p')->p'.b≠p.b:=fun id' ob' p' hne hi hp'=>hsep.2.2 _ _ _ hne hi hp';have hobR:zAt τ M w1 g.id (.row (.sl e) u xss):=zAt.moved f3 (hg.mem.ob _ _ hid).pln rfl fun p' hp'=>by rw [h.at_] at hp';cases hp';exact f7
  have hgR:=GG.readd (st:=st.put (some s) .junk) (w'':=w1) hid hg1 h.at_ (fun _ _=>rfl) (Below.refl _ _) f8 hsep.2.1 hoth hobR;have hoU:=hall _ (zM _ (zM _ zQ));have hoX:=hall _ (zM _ zQ)
  have rep: ∀ z∈[x,ix],qA τ M (jW ((s,.junk)::st.env) z) ((a.put (some s) v').eval z):=fun z hz=>by
   simp only [y4,zA,zO] at hoX;refine jY (a:=a.put (some s) v') (st:=({st with hp:=zDb st.hp g.id} :St).put (some s) .junk) hg1 (hoX.2 z ?_);simp [Op.operands] at hz ⊢;rcases hz with h|h<;>simp [h]
  have hsame: ∀ id,hgp (zBZ st.hp g.id (.row (.sl e) u xss)) id=hgp st.hp id:=fun id=>by
   unfold hgp;rw [zAx ⟨_,hid⟩]
   by_cases e':id=g.id
   ·rw [if_pos e',e',hid];rfl
   ·rw [if_neg e']
  rw [<- zJS hsame] at hca;obtain ⟨_,hix⟩:=zDi R.ty hgR.mem (rep x (by simp)) (rep ix (by simp)) _ _ _ hca;obtain ⟨pv,r1,r2⟩:=hix hq';obtain ⟨p'',t1,t2,t3⟩:=r2;rw [h.at_] at t1;cases t1;have hpv:pv= .pointer (some ⟨p.b,p.o+i',none⟩):=by rw [t2,q2];simp
  have hdn:zBM (some n1) (zHM a.tmps (some s) v'):=fun t' e'=>by
   have:=zAp (o:=⟨some n1,.indexAddr tt x ix,ty1,pos1,aft1,none⟩) h.gb.size hoX t' e';rw [q9];exact this
  have hg2:=hg1.put hdn (a:= .junk) (v:=pv) trivial
  have hd2:zBM d (zHM (zHM a.tmps (some s) v') (some n1) pv):=fun t' e'=>by
   have:=zAp (o:=⟨d,.store et (.tmp n1) (.tmp s),ty,pos,aft,none⟩) h.gb.size hoU t' e';rw [q9,q9];exact this
  have hw5:w1.heap[p.b]? =some (.cells c u (0,0)):=by rw [f7];exact q5
  have hoff:p.o+i'<c.size:=by omega
  obtain ⟨hvc,hvo⟩:=f5.cells
  have hst5:=zDR (P:=P) (w:=w1) (ρ:=((a.put (some s) v').put (some n1) pv).eval) (o:=⟨d,.store et (.tmp n1) (.tmp s),ty,pos,aft,none⟩) R.ty rfl hw5
   (by rw [eval_put_same (a:=a.put (some s) v') (hdn n1 rfl)];exact hpv) (ds:=[v']) (by rw [eval_put_ne hns',eval_put_same hsl];exact hvc) (by rw [hsz];rfl) (by rw [hsz];simp) (by simp only [List.length_singleton];omega) (fun z hz=>by rw [zD.1 hz];exact hvo)
  have hcl:c.toList.take (p.o+i')++[v']++c.toList.drop (p.o+i'+[v'].length)=c.toList.set (p.o+i') v':=by
   rw [List.set_eq_take_append_cons_drop,if_pos (by simpa using hoff)];simp
  rw [hcl] at hst5;have hw6:=zB3 (w:=w1) (c.toList.set (p.o+i') v').toArray hw5;have hother: ∀ k,k≠p.b->(w1.setRow p.b (c.toList.set (p.o+i') v').toArray).heap[k]? =w1.heap[k]? :=fun k hk=>setRow_other w1 p.b k _ hk
  have hob:zAt τ M (w1.setRow p.b (c.toList.set (p.o+i') v').toArray) g.id (.grow e u (xss.set i' (xss.getD i' []++ys))):=by
   refine ⟨by simpa using h0,p,h.at_,q2,by simpa using q3,q4,_,hw6,by simpa using q6,fun k x hx=> ?_,?_⟩
   ·rw [qI] at hx;split at hx
    ·rename_i e';subst e'
     first|(rw [if_pos hjl] at hx;cases hx)|cases hx
     refine ⟨v',by rw [hgx];exact f4,?_⟩;simp [hoff]
    ·rename_i hne;obtain ⟨v2,g1,g2⟩:=q7 k x hx;refine ⟨v2,g1.mono f3,?_⟩;rw [List.getElem?_toArray,qP (by omega),zJ];exact g2
   ·have:=zEd hF hval hg.mem.ag f6 f5 f9
    have e':(((c.toList.set (p.o+i') v').toArray.toList).drop p.o).take p.L=((c.toList.drop p.o).take p.L).set i' v':=by
     rw [List.drop_set,if_neg (by omega),List.take_set];congr 1;omega
    rw [e'];exact this.keep (fun _ _ e=>e) fun b o e=>hother b (by rintro rfl;rw [f8] at e;cases e)
  have h2:=GG.readd (st:=(st.put (some s) .junk).put (some n1) .junk) hid hg2 h.at_ (fun k hk=>hother k hk) (Below.setRow w1 p.b _ hsep.2.1) f8 hsep.2.1 hoth hob;have h3:=h2.put hd2 (a:= .undef) (v:=undef) qA.undef;refine zAW hgu (zAo nodef f1 ?_);rw [hds];refine zAW rfl (zAo (v:=pv) (by intro c e;cases e) (w':=w1) ?_ ?_)
  ·simp [execOp,r1]
  refine zAW rfl (zOH (by intro c e;cases e) hst5 ?_);exact hK _ _ (zEW (by rw [put_defers,put_defers];exact h.gb.defers) (by rw [j9,j9,q9,q9];exact h.gb.size) ⟨τ,M,h3⟩) fun o ho=>hall o (by simp [ho])
 ·cases he
theorem zW4 (R:zAS P T) (h:GA B N st a w) {l:List Oper} (hall: ∀ o∈l,y4 N o=true) {K:St->Prop} (hk:zZJ T ops l st K) (hQ: ∀ st' a' w',K st'->GA B N st' a' w'->Q .normal a' w'):wpListIn (FR r) n P ops Q l a w:=by
 have rest: ∀ {l:List Oper} {st:St} {a:Act} {w:World},(∀ o∈l,y4 N o=true)->GA B N st a w->zBj T false ops l st K->wpListIn (FR r) n P ops Q l a w:=by
  intro l st a w hall h hk;have:=zCv R (r:=r) (n:=n) (Q:=Q) [] l hall h hk fun st' a' w' hk' h'=>hQ _ _ _ hk' h';simpa using this
 unfold zZJ at hk;split at hk
 ·rename_i g st1 r1 hs;rw [St.force_eq] at hk;refine zTs R h hall hs fun M p a1 w1 hp hall1=> ?_;refine zR1 R r1 hall1 hp hk fun st2 a2 w2 oA r2 hk2 hp2 hall2=> ?_;split at hk2
  ·rename_i q st3 r3 he;obtain ⟨k1,k2⟩:=hk2.out;rw [St.force_eq] at k2;exact zYP R hp2 hall2 he k1 fun a3 w3 h3 hall3=>rest hall3 h3 k2
  ·exact hk2.elim
 ·exact rest hall h hk
theorem zWF (R:zAS P T) {id:Nat} (hall: ∀ o∈ops.toList,y4 N o=true) {K:St->Prop} (h:GA B N st a w) (hk:zYO T ops st K) (hQ: ∀ st' a' w',K st'->GA B N st' a' w'->Q .normal a' w') :
 (Code.region id ops false).wpIn (FR r) n P Q a w:=by
 refine wpIn_region_list ?_;unfold zYO at hk;split at hk
 ·rename_i i _
  have:=zCv R (r:=r) (n:=n) (Q:=Q) (ops.toList.drop i) (ops.toList.take i) (fun o ho=>hall o (zAd ho)) h hk fun st' a' w' hk' h' =>
   zW4 R h' (fun o ho=>hall o (zAE ho)) hk' hQ
  rw [zAU] at this;exact this
 ·have:=zCv R (r:=r) (n:=n) (Q:=Q) [] ops.toList hall h hk fun st' a' w' hk' h'=>hQ _ _ _ hk' h';simpa using this
end
end Go.Vm
