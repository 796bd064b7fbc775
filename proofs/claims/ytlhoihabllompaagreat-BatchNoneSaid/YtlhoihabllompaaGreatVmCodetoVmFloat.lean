/- A part of the proofs of the laws. -/
import Derived.Test.YtlhoihabllompaaGreatVmFreezetoVmHeap
set_option linter.unusedSimpArgs false
set_option linter.unusedVariables false
set_option maxHeartbeats 8000000
set_option maxRecDepth 100000
/- A whole code, and a function. -/
namespace Go.Vm
open Go.RowKit
def zXw (o:Oper):Bool:=jZ o.op|| (((jB o.op).isSome|| (zAq o.op).isSome)&&o.guard.isNone)
def zOG:List Oper->Nat
 | []=>0
 | o::l=>match jZ o.op|| ((jB o.op).isSome&&o.guard.isNone) with|true=>zOG l+1|false=>0
def jY:List Oper->List Tmp
 | []=>[]
 | o::l=>match jB o.op,o.dst with
   | some _,some d=>d::jY l
   | _,_=>jY l
def zRI (ops:Array Oper) (D:List Tmp):List Oper->Bool
 | []=>true
 | o::l=>(!(jZ o.op)|| (o.looksAt ops).all fun t=> !D.contains t)&&zRI ops D l
def zBl:List Oper->List Tmp
 | []=>[]
 | o::l=>match zAq o.op with
   | some (_,d,_)=>d::zBl l
   | none=>zBl l
def zE5 (D:List Tmp):List Oper->Nat
 | []=>0
 | o ::l=>match jZ o.op with
   | true=>zE5 D l+1
   | false=>match jB o.op,o.dst,zAq o.op,o.guard with
     | some _,some d,_,none=>zE5 (d::D) l+1
     | none,_,some (_,d,_),none=>match zWR d D with|true=>zE5 D l+1|false=>0
     | _,_,_,_=>0
def zIl:List (Tmp×TypeId)->List Oper->Bool
 | _,[]=>true
 | A,o::l=>(match zAq o.op with
     | some (t,d,_)=>A.any fun x=>Nat.beq x.1 d&&Nat.beq x.2 t
     | none=>true)&&zIl (match jB o.op,o.dst with|some t,some d=>(d,t)::A|_,_=>A) l
def zYf (D:List Tmp):List Oper->Bool
 | []=>true
 | o::l=>(match jB o.op,o.dst with|none,some d=> !zWR d D|_,_=>true)&&zYf D l
def zH5:List Oper->Bool
 | []=>true
 | o::l=>(match jB o.op with|some _=>o.dst.isSome|none=>true)&&zH5 l
def zMW (l:List Oper):Bool :=
 nodupB (jY l)&&nodupB (zBl l)&&zIl [] l&&zYf (jY l) l&&zH5 l
def zQy (ops:Array Oper) (k:Nat):Bool :=
 Nat.ble k ops.size&&(ops.toList.take k).all zXw&&zMW (ops.toList.take k) &&
 (zRI ops (jY (ops.toList.take k)) (ops.toList.take k)&&zDs ops k k 0 (Array.replicate ops.size false) &&
   zCp ops (ops.size - k) k ((List.range k).foldl (fun l i=>l.setIfInBounds i true) (Array.replicate ops.size false)))
def zUL (ops:Array Oper):Bool:=(zQy ops (zOG ops.toList)|| zQy ops (zE5 [] ops.toList))|| zR8 ops (zHq ops.toList)
def zFZ (ops:Array Oper) (oF:Oper) (d:Tmp):List Oper->Bool
 | []=>true
 | o::l=>jZ o.op&&(!(o.looksAt ops).contains d&&(match o.dst with|some d'=> !Nat.beq d' d&& !(oF.looksAt ops).contains d'|none=>true))&&zFZ ops oF d l
def zWH (ops:Array Oper) (f m:Nat):Bool:=match ops[f]? with
 | some oF=>match zDg oF with
   | some (_,_,d)=>Nat.ble (f+1+m) ops.size&&(ops.toList.take f).all (fun o=>jZ o.op)&&zFZ ops oF d ((ops.toList.drop (f+1)).take m)&&zCL ops f [f] &&
      zDs ops (f+1+m) (f+1+m) 0 (Array.replicate ops.size false) &&
      zCp ops (ops.size - (f+1+m)) (f+1+m) ((List.range (f+1+m)).foldl (fun l i=>l.setIfInBounds i true) (Array.replicate ops.size false))
   | none=>false
 | none=>false
def zUH (ops:Array Oper) (f m m2:Nat):Bool:=match ops[f]?,ops[f+1+m]? with
 | some o1,some o2=>match zDg o1,zDg o2 with
   | some (_,_,d1),some (_,_,d2)=>Nat.ble (f+1+m+1+m2) ops.size&&(ops.toList.take f).all (fun o=>jZ o.op)&&zFZ ops o1 d1 ((ops.toList.drop (f+1)).take m) &&
      zFZ ops o1 d1 ((ops.toList.drop (f+1+m+1)).take m2)&&zFZ ops o2 d2 ((ops.toList.drop (f+1+m+1)).take m2) &&
      (!Nat.beq d1 d2&& !(o1.looksAt ops).contains d2&& !(o2.looksAt ops).contains d1)&&zCL ops f [f]&&zCL ops (f+1+m) [f+1+m] &&
      zDs ops (f+1+m+1+m2) (f+1+m+1+m2) 0 (Array.replicate ops.size false) &&
      zCp ops (ops.size - (f+1+m+1+m2)) (f+1+m+1+m2) ((List.range (f+1+m+1+m2)).foldl (fun l i=>l.setIfInBounds i true) (Array.replicate ops.size false))
   | _,_=>false
 | _,_=>false
def zPs (o:Oper):Bool:=match o.op,o.guard,o.dst with
 | .store _ _ _,none,none=>true
 | _,_,_=>false
def zXo (ops:Array Oper) (f m:Nat):Bool:=match ops[f]? with
 | some oF=>zPs oF&&Nat.ble (f+1+m) ops.size&&(ops.toList.take f).all (fun o=>jZ o.op)&&((ops.toList.drop (f+1)).take m).all (fun o=>jZ o.op) &&
    zDs ops (f+1+m) (f+1+m) 0 (Array.replicate ops.size false) &&
    zCp ops (ops.size - (f+1+m)) (f+1+m) ((List.range (f+1+m)).foldl (fun l i=>l.setIfInBounds i true) (Array.replicate ops.size false))
 | none=>false
def zKn (ops:Array Oper) (f:Nat) (d:Tmp):Nat->List Oper->Bool
 | _,[]=>true
 | i,o::l=>(zBR ops f i|| (!(o.looksAt ops).contains d&&(match o.dst with|some d'=> !Nat.beq d' d|none=>true)))&&zKn ops f d (i+1) l
def zXE (ops:Array Oper) (f:Nat):Bool:=match ops[f]? with
 | some oF=>match zDg oF with
   | some (_,_,d)=>Nat.ble (f+1) ops.size&&(ops.toList.take f).all (fun o=>jZ o.op)&&zKn ops f d 0 (ops.toList.take f) &&
      zDs ops (f+1) (f+1) 0 (Array.replicate ops.size false) &&
      zCp ops (ops.size - (f+1)) (f+1) ((List.range (f+1)).foldl (fun l i=>l.setIfInBounds i true) (Array.replicate ops.size false))
   | none=>false
 | none=>false
def z4H (ops:Array Oper):Bool:=match zLB ops ops.toList 0 with
 | some (f,m)=>match zYY ops (f+1+m) with
   | some m2=>zUH ops f m m2
   | none=>zWH ops f m
 | none=>match z0W ops ops.toList 0 with
   | some f=>zXE ops f
   | none=>match storeAt ops ops.toList 0 with
     | some f=>zXo ops f (z7r ops (f+1) (ops.toList.drop (f+1)))
     | none=>zUL ops
def codeOk (N:Nat):Code->Bool
 | .region _ ops draw=>ops.toList.all (yS N)&&(!draw|| z4H ops)
 | .seq a b=>codeOk N a&&codeOk N b
 | .cond c a b=>zEM c&&codeOk N a&&codeOk N b
 | .block _ c=>codeOk N c
 | .loop c=>codeOk N c
 | .skip=>true
 | .label _=>true
 | .exit _=>true
 | .goto _=>true
 | .ret=>true
 | _=>false
section
variable {P:Program} {B:Base} {w:World} {σ:Sig} {β:yQ} {st:St} {T:Tab} {N:Nat} {a:Act} {r:Option Nat} {n:Nat} {ops:Array Oper} {Q:Exit->Act->World->Prop}
theorem zDN {o:Oper} {K:Act->World->Prop} (h:o.wpIn (FR r) n P a w K (fun _ _ _=>False)): ∃ a' w',K a' w':=by
 obtain ⟨_,h⟩:=h;generalize (o.semAt (FR r).round a.eval).run P w=res at h;cases res with
 | halt x w'=>cases x<;>simp only [Oper.uponIn] at h
 | ok nx w' =>
   cases nx<;>simp only [Oper.uponIn] at h
   case value v=>exact ⟨_,_,h⟩
   case skip=>exact ⟨_,_,h⟩
   case defer d=>exact ⟨_,_,h⟩
   case enter f args =>
    obtain ⟨e,w'',fr,hR,_⟩:=h.2.2 [] (fun d hd=>by cases hd);cases e with
    | returned v=>exact ⟨_,_,hR⟩
    | panicked c=>exact hR.elim
    | outgrown=>obtain ⟨_,_,hR⟩:=hR;exact hR.elim
   case row row args =>
    obtain ⟨v,w'',hR,_⟩:=h.2 default [] (fun d hd=>by cases hd);exact ⟨_,_,hR⟩
   case round l f tmps assign body =>
    obtain ⟨e,w'',hR,_⟩:=h.2.2 default [] (fun d hd=>by cases hd);cases e with
    | returned v=>exact ⟨_,_,hR⟩
    | panicked c=>exact hR.elim
    | outgrown=>obtain ⟨_,_,hR⟩:=hR;exact hR.elim
def zAu (ops:Array Oper) (k i:Nat) (t:TypeId):Prop:=i<k/\∃ o,ops[i]? =some o/\jB o.op=some t
def zEY (d:Tmp):List Oper->Nat->Option Nat
 | [],_=>none
 | o::l,n=>match zAq o.op with
   | some (_,d',_)=>if d'=d then some n else zEY d l (n+1)
   | none=>zEY d l (n+1)
def initOf (ops:Array Oper) (k j:Nat):Option Nat:=match ops[j]? with
 | some o=>match o.dst with
   | some d=>zEY d (ops.toList.take k) 0
   | none=>none
 | none=>none
def z08 (ops:Array Oper) (k:Nat) (gf:Nat->List AS) (was:Nat->Bool) (z:List AS) (j:Nat):List AS:=match initOf ops k j with
 | some i=>match was i with
   | true=>zAV z 0 (gf i)
   | false=>z
 | none=>z
theorem zEE {d:Tmp} : ∀ {l:List Oper} {n i:Nat},zEY d l n=some i->∃ m o t x,i=n+m/\l[m]? =some o/\zAq o.op=some (t,d,x)
 | [],_,_,h=>by cases h
 | o ::l,n,i,h=>by
   simp only [zEY] at h;split at h
   ·rename_i t d' x hi;split at h
    ·rename_i e;subst e;cases h;exact ⟨0,o,t,x,rfl,rfl,hi⟩
    ·obtain ⟨m,o',t',x',e1,e2,e3⟩:=zEE h;exact ⟨m+1,o',t',x',by omega,by simpa using e2,e3⟩
   ·obtain ⟨m,o',t',x',e1,e2,e3⟩:=zEE h;exact ⟨m+1,o',t',x',by omega,by simpa using e2,e3⟩
theorem zE7 {i:Nat} : ∀ {l:List Nat},zWR i l=true↔i∈l
 | []=>by simp [zWR]
 | k ::r=>by
   simp only [zWR]
   by_cases e:k=i
   ·subst e;simp [Nat.beq_refl]
   ·have:Nat.beq k i=false:=by
     cases h:Nat.beq k i with
     | false=>rfl
     | true=>exact (e (zH h)).elim
    rw [this];simp only [zE7 (l:=r),zT];exact ⟨.inr,fun h=>h.resolve_left (fun h=>e h.symm)⟩
theorem zGK {o:Oper} {t:TypeId} {d:Tmp} {x:Operand} (hi:zAq o.op=some (t,d,x)): ∀ {l:List Oper},o∈l->d∈zBl l
 | [],h=>by cases h
 | o'::l,h=>by
   simp only [zBl];rcases zT.1 h with rfl|h
   ·rw [hi];exact yA
   ·have:=zGK hi h;split
    ·exact zS _ this
    ·exact this
theorem zFX {o:Oper} {t:TypeId} {d:Tmp} {x:Operand} (hi:zAq o.op=some (t,d,x)): ∀ {l:List Oper} {n m:Nat},nodupB (zBl l)=true->l[m]? =some o->zEY d l n=some (n+m)
 | [],_,_,_,h=>by simp at h
 | o'::l,n,0,_,h=>by
   simp at h;subst h;simp only [zEY,hi,if_true];rfl
 | o'::l,n,m+1,hn,h=>by
   have h':l[m]? =some o:=by simpa using h
   simp only [zEY];split
   ·rename_i t' d' x' hi';simp only [zBl,hi',nodupB,zC,Bool.not_eq_true'] at hn
    have hne:d'≠d:=by
     rintro rfl;have:=zE7.2 (zGK hi (List.mem_of_getElem? h'));rw [this] at hn;cases hn.1
    rw [if_neg hne,zFX hi hn.2 h'];congr 1;omega
   ·rename_i hi';simp only [zBl,hi'] at hn;rw [zFX hi hn h'];congr 1;omega
theorem zBU {o:Oper} {t:TypeId} {d:Tmp} (ha:jB o.op=some t) (hd:o.dst=some d): ∀ {l:List Oper},o∈l->d∈jY l
 | [],h=>by cases h
 | o'::l,h=>by
   simp only [jY];rcases zT.1 h with rfl|h
   ·rw [ha,hd];exact yA
   ·have:=zBU ha hd h;split
    ·exact zS _ this
    ·exact this
theorem zFD {o o':Oper} {t t':TypeId} {d:Tmp} (ha:jB o.op=some t) (hd:o.dst=some d) (ha':jB o'.op=some t') (hd':o'.dst=some d) :
 ∀ {l:List Oper} {i j:Nat},nodupB (jY l)=true->l[i]? =some o->l[j]? =some o'->i=j
 | [],_,_,_,h,_=>by simp at h
 | x::l,0,0,_,_,_=>rfl
 | x::l,0,j+1,hn,h,h'=>by
   simp at h;subst h;simp only [jY,ha,hd,nodupB,zC,Bool.not_eq_true'] at hn;have:=zE7.2 (zBU ha' hd' (List.mem_of_getElem? (by simpa using h':l[j]? =some o')));rw [this] at hn;cases hn.1
 | x::l,i+1,0,hn,h,h'=>by
   simp at h';subst h';simp only [jY,ha',hd',nodupB,zC,Bool.not_eq_true'] at hn;have:=zE7.2 (zBU ha hd (List.mem_of_getElem? (by simpa using h:l[i]? =some o)));rw [this] at hn;cases hn.1
 | x ::l,i+1,j+1,hn,h,h'=>by
   have hn':nodupB (jY l)=true:=by
    simp only [jY] at hn;split at hn
    ·simp only [nodupB,zC] at hn;exact hn.2
    ·exact hn
   have e:i=j:=zFD ha hd ha' hd' hn' (by simpa using h) (by simpa using h');rw [e]
structure zY4 (ops:Array Oper) (k:Nat):Prop where
 initOf: ∀ (i j:Nat) (o oj:Oper) (t t':TypeId) (d:Tmp) (x:Operand),i<k->j<k->ops[i]? =some o->ops[j]? =some oj->zAq o.op=some (t,d,x)->jB oj.op=some t'->oj.dst=some d->initOf ops k j=some i
 inj: ∀ (i j:Nat) (o oj:Oper) (t t':TypeId) (d:Tmp),i<k->j<k->ops[i]? =some o->ops[j]? =some oj->jB o.op=some t->jB oj.op=some t'->o.dst=some d->oj.dst=some d->i=j
 has: ∀ (i:Nat) (o:Oper) (t:TypeId) (d:Tmp) (x:Operand),i<k->ops[i]? =some o->zAq o.op=some (t,d,x)->∃ (j:Nat) (oj:Oper),j<i/\ops[j]? =some oj/\jB oj.op=some t/\oj.dst=some d
 dst: ∀ (i:Nat) (o:Oper) (d:Tmp) (j:Nat) (oj:Oper) (t:TypeId),i<k->j<k->ops[i]? =some o->ops[j]? =some oj->jB o.op=none->jB oj.op=some t->oj.dst=some d->o.dst≠some d
 slot: ∀ (i:Nat) (o:Oper) (t:TypeId),i<k->ops[i]? =some o->jB o.op=some t->∃ d,o.dst=some d
theorem zHG: ∀ {l:List Oper} {A:List (Tmp×TypeId)},zIl A l=true->∀ (i:Nat) (o:Oper) (t:TypeId) (d:Tmp) (x:Operand),l[i]? =some o->zAq o.op=some (t,d,x)->(d,t)∈A\/∃ (j:Nat) (oj:Oper),j<i/\l[j]? =some oj/\jB oj.op=some t/\oj.dst=some d
 | [],_,_,i,o,t,d,x,h,_=>by simp at h
 | y::l,A,hc,0,o,t,d,x,h,hi=>by
   simp at h;subst h;simp only [zIl,hi,zC,List.any_eq_true] at hc;obtain ⟨⟨⟨d',t'⟩,h1,h2,h3⟩,_⟩:=hc;have:=zH h2;have:=zH h3;simp only at *
   subst_vars
   exact .inl h1
 | y ::l,A,hc,i+1,o,t,d,x,h,hi=>by
   simp only [zIl,zC] at hc;rcases zHG hc.2 i o t d x (by simpa using h) hi with h1|⟨j,oj,h1,h2,h3,h4⟩
   ·split at h1
    ·rename_i t' d' ha hd;rcases zT.1 h1 with e|e
     ·cases e;exact .inr ⟨0,y,by omega,rfl,ha,hd⟩
     ·exact .inl e
    ·exact .inl h1
   ·exact .inr ⟨j+1,oj,by omega,by simpa using h2,h3,h4⟩
theorem zG9 {D:List Tmp} : ∀ {l:List Oper},zYf D l=true->∀ o∈l,jB o.op=none->∀ d,o.dst=some d->d∉D
 | [],_,_,h,_,_,_=>by cases h
 | y ::l,hc,o,h,ha,d,hd=>by
   simp only [zYf,zC] at hc;rcases zT.1 h with rfl|h
   ·have:=hc.1;rw [ha,hd] at this;simp only [Bool.not_eq_true'] at this;intro hm;rw [zE7.2 hm] at this;cases this
   ·exact zG9 hc.2 o h ha d hd
theorem zFm: ∀ {l:List Oper},zH5 l=true->∀ o∈l,∀ t:TypeId,jB o.op=some t->∃ d,o.dst=some d
 | [],_,_,h,_,_=>by cases h
 | y::l,hc,o,h,t,ha=>by
   simp only [zH5,zC] at hc;rcases zT.1 h with rfl|h
   ·have:=hc.1;rw [ha] at this;exact Option.isSome_iff_exists.1 this
   ·exact zFm hc.2 o h t ha
theorem z1E {k:Nat} (h:zMW (ops.toList.take k)=true):zY4 ops k:=by
 simp only [zMW,zC] at h;obtain ⟨⟨⟨⟨h1,h2⟩,h3⟩,h4⟩,h5⟩:=h
 have get: ∀ {i:Nat} {o:Oper},i<k->ops[i]? =some o->(ops.toList.take k)[i]? =some o:=fun {i o} hi ho=>by
  rw [List.getElem?_take,if_pos hi];simpa using ho
 have back: ∀ {i:Nat} {o:Oper},(ops.toList.take k)[i]? =some o->i<k/\ops[i]? =some o:=fun {i o} ho=>by
  rw [List.getElem?_take] at ho;split at ho
  ·rename_i hi;exact ⟨hi,by simpa using ho⟩
  ·cases ho
 refine ⟨fun i j o oj t t' d x hi hj ho hoj hin ha hd=> ?_,fun i j o oj t t' d hi hj ho hoj ha ha' hd hd'=> ?_,fun i o t d x hi ho hin=> ?_,fun i o d j oj t hi hj ho hoj hn ha hd=> ?_,fun i o t hi ho ha=> ?_⟩
 ·simp only [Vm.initOf,hoj,hd];have:=zFX (n:=0) hin h2 (get hi ho);rw [zD] at this;exact this
 ·exact zFD ha hd ha' hd' h1 (get hi ho) (get hj hoj)
 ·rcases zHG h3 i o t d x (get hi ho) hin with e|⟨j,oj,q1,q2,q3,q4⟩
  ·cases e
  ·exact ⟨j,oj,q1,(back q2).2,q3,q4⟩
 ·intro e;exact zG9 h4 o (List.mem_of_getElem? (get hi ho)) hn d e (zBU ha hd (List.mem_of_getElem? (get hj hoj)))
 ·exact zFm h5 o (List.mem_of_getElem? (get hi ho)) t ha
theorem zAJ {k i j:Nat} (h:initOf ops k j=some i):i<k/\∃ o oj t d x,ops[i]? =some o/\ops[j]? =some oj/\zAq o.op=some (t,d,x)/\oj.dst=some d:=by
 unfold initOf at h;split at h
 ·rename_i oj hoj;split at h
  ·rename_i d hd;obtain ⟨m,o,t,x,e1,e2,e3⟩:=zEE h;rw [zD] at e1;subst e1;rw [List.getElem?_take] at e2;split at e2
   ·rename_i hm;exact ⟨hm,o,oj,t,d,x,by simpa using e2,hoj,e3,hd⟩
   ·cases e2
  ·cases h
 ·cases h
theorem zIh {op:Op} {t:TypeId} {d:Tmp} {x:Operand} (h:zAq op=some (t,d,x)):op= .store t (.tmp d) x:=by
 revert h
 cases op<;>simp only [zAq]<;>first|(intro h;cases h;done)|skip
 rename_i t' y z;cases y<;>simp only [zAq]<;>intro h<;>cases h;rfl
theorem zGt {op:Op} {r:TypeId×Tmp×Operand} (h:zAq op=some r):jB op=none:=by
 obtain ⟨t,d,x⟩:=r;rw [zIh h];rfl
theorem zB6 {k:Nat} {gf gf':Nat->List AS} {was was':Nat->Bool} {z:List AS} {j:Nat} (h: ∀ i,initOf ops k j=some i->was i=was' i/\(was i=true->gf i=gf' i)):z08 ops k gf was z j=z08 ops k gf' was' z j:=by
 unfold z08;split
 ·rename_i i hi;obtain ⟨h1,h2⟩:=h i hi;rw [<- h1];split
  ·rename_i hw;rw [h2 hw]
  ·rfl
 ·rfl
theorem zEg {k:Nat} {gf:Nat->List AS} {was:Nat->Bool} {z:List AS} {j:Nat} (h: ∀ i,initOf ops k j=some i->was i=false):z08 ops k gf was z j=z:=by
 unfold z08;split
 ·rename_i i hi;rw [h i hi]
 ·rfl
theorem zNW {k:Nat} {gf:Nat->List AS} {was:Nat->Bool} {z:List AS} {i j:Nat} (h:initOf ops k j=some i) (hw:was i=true):z08 ops k gf was z j=zAV z 0 (gf i):=by
 unfold z08;rw [h];simp only [hw]
theorem zPY {T:Tab} {t u:TypeId} {id:Nat} {v:AV} {st:St} {d:Option Tmp} {m cs:List AS} (hv:v.flat=some m) (h1:(Nat.beq m.length (T.sizeOf t)&& !Nat.beq (T.sizeOf t) 0)=true) (h2:m.all AS.storable=true)
 (hh:hget st.hp id=some (.flat u cs)) (h3:Nat.ble (0+m.length) cs.length=true) :
 zBy T t (.s (.ptr id 0 0)) v st d=some (none,none,({st with hp:=zA3 st.hp id (.flat u (zAV cs 0 m))} :St).put d .undef):=by
 simp only [zBy,hv,h1,h2,hh,h3]
theorem zII {T:Tab} {t u:TypeId} {id:Nat} {v:AV} {st:St} {d:Option Tmp} {cs:List AS} {r} (h:zBy T t (.s (.ptr id 0 0)) v st d=some r) (hh:hget st.hp id=some (.flat u cs)) :
 ∃ m,v.flat=some m/\(Nat.beq m.length (T.sizeOf t)&& !Nat.beq (T.sizeOf t) 0)=true/\m.all AS.storable=true/\Nat.ble (0+m.length) cs.length=true/\r=(none,none,({st with hp:=zA3 st.hp id (.flat u (zAV cs 0 m))} :St).put d .undef):=by
 unfold zBy at h;cases hv:v.flat with
 | none=>simp only [hv] at h;cases h
 | some m =>
   simp only [hv,hh] at h;cases h1:(Nat.beq m.length (T.sizeOf t)&& !Nat.beq (T.sizeOf t) 0) with
   | false=>simp only [h1] at h;cases h
   | true =>
     cases h2:m.all AS.storable with
     | false=>simp only [h1,h2] at h;cases h
     | true =>
       simp only [h1,h2] at h;cases h3:Nat.ble (0+m.length) cs.length with
       | false=>simp only [h3] at h;cases h
       | true=>simp only [h3] at h;exact ⟨m,rfl,h1,h2,h3,(Option.some.inj h).symm⟩
structure RF (B:Base) (N:Nat) (T:Tab) (ops:Array Oper) (k:Nat) (hp:jH) (nx:Nat) (gf:Nat->List AS) (listed:Array Bool) (e:Fr) (a:Act) (w:World) (env:Env) (hp':jH) (β:yQ):Prop where
 look:yY env=e
 gb:GB B N β ⟨env,hp',nx+zBO ops.toList k⟩ a w
 ext:z6x nx hp hp'
 done: ∀ i t,zAu ops k i t->listed.getD i true=true->∃ ti,T.info t=some ti/\hget hp' (nx+zBO ops.toList i)=some (.flat t (z08 ops k gf (fun x=>listed.getD x true) ti.zero i))
 wait: ∀ i t,zAu ops k i t->listed.getD i true=false->hget hp' (nx+zBO ops.toList i)=none/\β[nx+zBO ops.toList i]? =some dead
 only: ∀ id ob,hget hp' id=some ob->id<nx\/∃ i t,zAu ops k i t/\id=nx+zBO ops.toList i
 first: ∀ i j t,initOf ops k j=some i->zAu ops k j t->listed.getD i true=true->listed.getD j true=true
theorem zPv {o:Oper} {t:TypeId} (h2:jB o.op=some t): ∀ (l:List Oper) (i j:Nat),l[i]? =some o->i<j->zBO l i<zBO l j:=by
 intro l
 induction l with
 | nil=>intro i j h;simp at h
 | cons x l ih =>
   intro i j h h3;obtain ⟨j',rfl⟩: ∃ j',j=j'+1:=⟨j - 1,by omega⟩;cases i with
   | zero=>simp at h;subst h;simp only [zBO,h2];omega
   | succ i =>
     simp only [zBO];have:=ih i j' (by simpa using h) (by omega);omega
theorem zEn {k i j:Nat} {t u:TypeId} (hi:zAu ops k i t) (hj:zAu ops k j u) (h:zBO ops.toList i=zBO ops.toList j):i=j:=by
 obtain ⟨_,o,ho,ha⟩:=hi;obtain ⟨_,o',ho',ha'⟩:=hj;rcases Nat.lt_trichotomy i j with hlt|heq|hgt
 ·have:=zPv ha ops.toList i j (by simpa using ho) hlt;omega
 ·exact heq
 ·have:=zPv ha' ops.toList j i (by simpa using ho') hgt;omega
theorem zAH (env:Env) (hp:jH) (nx:Nat) (d:Option Tmp) (v:AV): ∃ env',(⟨env,hp,nx⟩:St).put d v=⟨env',hp,nx⟩/\yY env'=upd (yY env) d v:=by
 cases d with
 | none=>exact ⟨env,rfl,rfl⟩
 | some t=>exact ⟨(t,v)::env,rfl,by funext x;rw [qQ];rfl⟩
theorem zFi {t:Array Value} {j:Nat} {d:Tmp} {vs:Array Value} (hd:qU ops j=some d) (hv:t.getD d undef= .tuple vs):yielded ops t j=none:=by
 unfold qU at hd;unfold yielded;split at hd
 ·rename_i o' ho';simp only [ho',Option.bind_some,hd];cases e:t[d]? with
  | none=>rfl
  | some v =>
    simp only [zL,e,Option.getD_some] at hv;subst hv;rfl
 ·cases hd
theorem jR {e:Fr} {o:Oper} {b:Bool} (hw:qF ops e o=some b) {env:Env} (he:yY env=e) {hp:jH} {nx:Nat} (h:GA B N ⟨env,hp,nx⟩ a w):Region.wanted o (yielded ops a.tmps)=b:=by
 unfold qF at hw;unfold Region.wanted;split at hw
 ·rename_i hg;cases hw;simp [hg]
 ·rename_i j want hg;simp only [hg];obtain ⟨σ,β,hgg⟩:=h.gg;split at hw
  ·rename_i d hd;have hv:=hgg.env d;rw [he] at hv;split at hw
   ·rename_i b' hb';rw [hb'] at hv;cases hw;rw [zEq hd (show a.tmps.getD d undef= .bool b' from hv)];cases b'<;>cases want<;>rfl
   ·rename_i vs hb';rw [hb'] at hv;cases hw;rw [zFi hd hv.1];rfl
   ·cases hw
  ·cases hw
theorem zZt (R:jK P T) {env:Env} {hp':jH} {m:Nat} (h:GB B N β ⟨env,hp',m⟩ a w) {o:Oper} (ho:yS N o=true) {t:TypeId} (hop:o.op= .alloc t) {ti:TI} (hti:T.info t=some ti) {id:Nat} (hdd:β[id]? =some dead) {K:Act->World->Prop}
 (hK: ∀ (a':Act) (w':World) (p:Option Bk),GB B N (β.set id p) ((⟨env,(id,.flat t ti.zero)::hp',m⟩:St).put o.dst (.s (.ptr id 0 0))) a' w'->K a' w'):o.wpIn (FR r) n P a w K Q:=by
 obtain ⟨σ,hg⟩:=h.gg;obtain ⟨i,z,hi,hs,hb,hz,hzl⟩:=(R.ty _ _ hti).get
 have hx:(execOp a.eval o).run P w= .ok (.value (.pointer (some ⟨w.heap.size,0,none⟩))) (w.alloc (.cells z.cells t)):=by
  simp [execOp,hop,Instr.alloc,zeroValue,typeInfo,hi,hz,newVar,newRow]
 refine ⟨fun f _=>trivial,?_⟩;rw [Oper.semAt_eq _ _ _ (by intro c e;rw [hop] at e;cases e),hx];exact hK _ _ _ (zC5 h.defers h.size ⟨σ,hg.revive hdd (zA9 h.size ho) (by rw [hzl];exact zEm (R.ty _ _ hti).zok)⟩)
theorem q9 {l:Array Bool} {i:Nat} :(l.setIfInBounds i true).getD i true=true:=by
 rcases Nat.lt_or_ge i l.size with h'|h'
 ·simp [zL,h']
 ·simp [zL,Array.getElem?_eq_none (show (l.setIfInBounds i true).size<=i by simpa using h')]
theorem zGa {op:Op} {t:TypeId} (h:jB op=some t):op= .alloc t:=by
 cases op<;>simp only [jB] at h<;>first|contradiction|(cases h;rfl)
theorem zIi (R:jK P T) (hall: ∀ (i:Nat) (o:Oper),ops[i]? =some o->yS N o=true) {hp:jH} {nx k fuel:Nat} {gf:Nat->List AS} {ef:Fr} (hF:zY4 ops k) (lk:Array Bool)
 (htail: ∀ (a:Act) (w:World) (listed:Array Bool) (env:Env) (hp':jH) (β:yQ),(∀ i<k,listed.getD i true=true)->(∀ i,listed.getD i true=lk.getD i true)->listed.size=lk.size->RF B N T ops k hp nx gf listed ef a w env hp' β->wpAnyIn (FR r) n P .any ops Q fuel listed a w) :
 ∀ (m:Nat) (listed:Array Bool) (e:Fr) (a:Act) (w:World) (env:Env) (hp':jH) (β:yQ),zDW (Yields T ops hp nx gf) ops k ef m listed e->(∀ i,k<=i->listed.getD i true=lk.getD i true)->(∀ i<k,lk.getD i true=true)->listed.size=lk.size->RF B N T ops k hp nx gf listed e a w env hp' β->
   wpAnyIn (FR r) n P .any ops Q (m+fuel) listed a w
 | 0,listed,e,a,w,env,hp',β,h,hl1,hl2,hs,hr=>by
   obtain ⟨h1,rfl⟩:=h;rw [zD];refine htail a w listed env hp' β h1 (fun i=> ?_) hs hr
   by_cases hi:i<k
   ·rw [h1 i hi,hl2 i hi]
   ·exact hl1 i (by omega)
 | m + 1,listed,e,a,w,env,hp',β,h,hl1,hl2,hs,hr=>by
   rw [show m+1+fuel=(m+fuel)+1 by omega];refine ⟨fun h0=>(h.1 h0).elim,fun i hi=> ?_⟩;obtain ⟨hik,o,v,ho,hy,hk⟩:=h.2 i hi;have hun:=(mem_ready.1 hi).1;have hop:=hall i o ho
   have nxt: ∀ (a':Act) (w':World) (env':Env) (hp2:jH) (β':yQ),RF B N T ops k hp nx gf (listed.setIfInBounds i true) (upd e o.dst v) a' w' env' hp2 β'->wpAnyIn (FR r) n P .any ops Q (m+fuel) (listed.setIfInBounds i true) a' w':=fun a' w' env' hp2 β' hr' =>
    zIi R hall hF lk htail m _ _ a' w' env' hp2 β' hk (fun j hj=>by rw [getD_set_ne true (by omega)];exact hl1 j hj) hl2 (by simpa using hs) hr'
   unfold wpOpIn;simp only [ho];unfold Yields at hy;split at hy
   ·rename_i hna;split at hy
    ·-- a calm one
     rename_i hni
     have keep: ∀ {j:Nat} {t:TypeId},zAu ops k j t->(listed.setIfInBounds i true).getD j true=listed.getD j true:=fun {j t} hj=>by
      refine getD_set_ne true (fun e=> ?_);obtain ⟨_,o',ho',ha'⟩:=hj;rw [<- e,ho] at ho';cases ho';rw [hna] at ha';cases ha'
     have keepI: ∀ {i' j:Nat},initOf ops k j=some i'->(listed.setIfInBounds i true).getD i' true=listed.getD i' true:=fun {i' j} hj=>by
      refine getD_set_ne true (fun e=> ?_);obtain ⟨_,o',_,_,_,_,ho',_,hin,_⟩:=zAJ hj;rw [<- e,ho] at ho';cases ho';rw [hni] at hin;cases hin
     have step: ∀ {u:AV} {a':Act} {w':World},GB B N β ((⟨env,hp',nx+zBO ops.toList k⟩:St).put o.dst u) a' w'->∃ env',RF B N T ops k hp nx gf (listed.setIfInBounds i true) (upd e o.dst u) a' w' env' hp' β:=fun {u a' w'} hgb=>by
      obtain ⟨env',e1,e2⟩:=zAH env hp' (nx+zBO ops.toList k) o.dst u;rw [e1] at hgb
      exact ⟨env',by rw [e2,hr.look],hgb,hr.ext,fun j t hj hl=>by
       obtain ⟨ti,q1,q2⟩:=hr.done j t hj (by rw [<- keep hj];exact hl);refine ⟨ti,q1,?_⟩;rw [q2,zB6 (gf':=gf) (was':=fun x=>(listed.setIfInBounds i true).getD x true) fun i' hi'=>⟨(keepI hi').symm,fun _=>rfl⟩],fun j t hj hl=>hr.wait j t hj (by rw [<- keep hj];exact hl),hr.only,
       fun i' j t hi' hj hl=>by rw [keep hj];exact hr.first i' j t hi' hj (by rw [<- keepI hi'];exact hl)⟩
     rcases hy with ⟨hw,p,q,hc,hq⟩|⟨hw,rfl⟩
     ·rw [if_pos (jR hw hr.look hr.gb.ga)];have hc:=hc hp' hr.ext;rw [<- hr.look,yZ] at hc;refine (zLJ R hr.gb hop hc).2 hq fun a' w' hga'=> ?_;obtain ⟨env',h'⟩:=step hga';exact nxt a' w' _ _ _ h'
     ·rw [if_neg (by rw [jR hw hr.look hr.gb.ga];simp)];refine ⟨fun f _=>trivial,?_⟩
      have:GB B N β ((⟨env,hp',nx+zBO ops.toList k⟩:St).put o.dst .undef) (a.put o.dst undef) w:=by
       obtain ⟨σ,hg⟩:=hr.gb.gg;exact zC5 hr.gb.defers hr.gb.size ⟨σ,hg.put (zA9 hr.gb.size hop) y5.undef⟩
      obtain ⟨env',h'⟩:=step this;exact nxt _ _ _ _ _ h'
    ·-- a store into a thing that was allocated there
     rename_i t d x hin;obtain ⟨hg,rfl,j,oj,ti,hji,hoj,haj,hdj,hed,hti,hfl,c1,c2,c3⟩:=hy;have hjk:j<k:=by omega
     have hat:zAu ops k j t:=⟨hjk,oj,hoj,haj⟩;have hop':=zIh hin;have hof:initOf ops k j=some i:=hF.initOf i j o oj t t d x hik hjk ho hoj hin haj hdj
     have hjl:listed.getD j true=true:=by
      cases hl:listed.getD j true with
      | true=>rfl
      | false =>
        obtain ⟨_,hdd⟩:=hr.wait j t hat hl;obtain ⟨σ,hgg⟩:=hr.gb.gg;have hv:=hgg.env d;have hed':yY env d= .s (.ptr (nx+zBO ops.toList j) 0 0):=by rw [hr.look];exact hed
        rw [show yY (⟨env,hp',nx+zBO ops.toList k⟩:St).env d=_ from hed'] at hv;obtain ⟨p,e1,_,e2⟩:=hv;rw [hdd] at e1;cases e1;exact absurd e2 (by simp [dead])
     obtain ⟨ti',q1,q2⟩:=hr.done j t hat hjl;rw [hti] at q1;cases q1;rw [zEg fun i' hi'=>by rw [hof] at hi';cases hi';exact hun] at q2;rw [if_pos (by simp [Region.wanted,hg])]
     have hest:zBy T t (y6 env (.tmp d)) (y6 env x) ⟨env,hp',nx+zBO ops.toList k⟩ o.dst=some (none,none,(⟨env,zA3 hp' (nx+zBO ops.toList j) (.flat t (zAV ti.zero 0 (gf i))),nx+zBO ops.toList k⟩:St).put o.dst .undef):=by
      rw [<- yZ,hr.look,hed];exact zPY hfl c1 c2 q2 c3
     refine zVn R hr.gb hop hop' hest fun a' w' hgb=> ?_;obtain ⟨env',e1,e2⟩:=zAH env (zA3 hp' (nx+zBO ops.toList j) (.flat t (zAV ti.zero 0 (gf i)))) (nx+zBO ops.toList k) o.dst .undef;rw [e1] at hgb;have hset_get: ∀ id,hget (zA3 hp' (nx+zBO ops.toList j) (.flat t (zAV ti.zero 0 (gf i)))) id=if id=nx+zBO ops.toList j then some (.flat t (zAV ti.zero 0 (gf i))) else hget hp' id:=fun id=>zAP ⟨_,q2⟩
     have keep: ∀ {j':Nat} {t':TypeId},zAu ops k j' t'->(listed.setIfInBounds i true).getD j' true=listed.getD j' true:=fun {j' t'} hj=>by
      refine getD_set_ne true (fun e=> ?_);obtain ⟨_,o',ho',ha'⟩:=hj;rw [<- e,ho] at ho';cases ho';rw [hna] at ha';cases ha'
     refine nxt a' w' env' _ _ ⟨by rw [e2,hr.look],hgb,fun id hid=> ?_,fun j' u hj' hl=> ?_,fun j' u hj' hl=> ?_,fun id ob hi'=> ?_,fun i' j' u hi' hj' hl=> ?_⟩
     ·rw [hset_get,if_neg (by omega)];exact hr.ext id hid
     ·by_cases hjj:j'=j
      ·subst hjj;obtain ⟨_,o',ho',ha'⟩:=hj';rw [hoj] at ho';cases ho';rw [haj] at ha';cases ha';refine ⟨ti,hti,?_⟩;rw [hset_get,if_pos rfl,zNW hof q9]
      ·obtain ⟨ti',q3,q4⟩:=hr.done j' u hj' (by rw [<- keep hj'];exact hl);refine ⟨ti',q3,?_⟩;rw [hset_get,if_neg (fun e=>hjj (zEn hj' hat (by omega))),q4];rw [zB6 (gf':=gf) (was':=fun x=>(listed.setIfInBounds i true).getD x true) fun i' hi'=>⟨(getD_set_ne true (fun e=> ?_)).symm,fun _=>rfl⟩];subst e;obtain ⟨_,o',oj',t',d',x',r1,r2,r3,r4⟩:=zAJ hi';obtain ⟨hjk',o2,ho2,ha2⟩:=hj';rw [ho] at r1;cases r1;rw [hin] at r3;cases r3
       rw [ho2] at r2;cases r2;exact hjj (hF.inj j' j _ _ _ _ _ hjk' hjk ho2 hoj ha2 haj r4 hdj)
     ·rw [keep hj'] at hl;obtain ⟨q3,q4⟩:=hr.wait j' u hj' hl;refine ⟨?_,q4⟩;rw [hset_get];split
      ·rename_i e;have:=zEn hj' hat (by omega);subst this;rw [hjl] at hl;cases hl
      ·exact q3
     ·rw [hset_get] at hi';split at hi'
      ·rename_i e;exact .inr ⟨j,t,hat,e⟩
      ·exact hr.only id ob hi'
     ·rw [keep hj']
      by_cases hii:i'=i
      ·subst hii;obtain ⟨_,o',oj',t',d',x',r1,r2,r3,r4⟩:=zAJ hi';obtain ⟨hjk',o2,ho2,ha2⟩:=hj';rw [ho] at r1;cases r1;rw [hin] at r3;cases r3;rw [ho2] at r2;cases r2;rw [hF.inj j' j _ _ _ _ _ hjk' hjk ho2 hoj ha2 haj r4 hdj];exact hjl
      ·rw [getD_set_ne true (Ne.symm hii)] at hl;exact hr.first i' j' u hi' hj' hl
   ·-- an allocation
    rename_i t ha;obtain ⟨hg,hti,rfl⟩:=hy;obtain ⟨ti,hti⟩:=Option.isSome_iff_exists.1 hti;have hat:zAu ops k i t:=⟨hik,o,ho,ha⟩;obtain ⟨_,hdd⟩:=hr.wait i t hat hun
    have keepI: ∀ {i' j:Nat},initOf ops k j=some i'->(listed.setIfInBounds i true).getD i' true=listed.getD i' true:=fun {i' j} hj=>by
     refine getD_set_ne true (fun e=> ?_);obtain ⟨_,o',_,_,_,_,ho',_,hin,_⟩:=zAJ hj;rw [<- e,ho] at ho';cases ho';rw [zGt hin] at ha;cases ha
    rw [if_pos (by simp [Region.wanted,hg])];refine zZt R hr.gb hop (zGa ha) hti hdd fun a' w' p hgb=> ?_;obtain ⟨env',e1,e2⟩:=zAH env ((nx+zBO ops.toList i,.flat t ti.zero)::hp') (nx+zBO ops.toList k) o.dst (.s (.ptr (nx+zBO ops.toList i) 0 0));rw [e1] at hgb;refine nxt a' w' env' _ _ ⟨by rw [e2,hr.look],hgb,fun id hid=> ?_,fun j u hj hl=> ?_,fun j u hj hl=> ?_,fun id ob hi'=> ?_,fun i' j u hi' hj hl=> ?_⟩
    ·rw [yL,if_neg (by omega)];exact hr.ext id hid
    ·rw [yL]
     by_cases hji:i=j
     ·subst hji;obtain ⟨_,o',ho',ha'⟩:=hj;rw [ho] at ho';cases ho';rw [ha] at ha';cases ha';refine ⟨ti,hti,?_⟩;rw [if_pos rfl,zEg fun i' hi'=> ?_];rw [keepI hi'];cases hl':listed.getD i' true with
      | false=>rfl
      | true=>rw [hr.first i' i _ hi' hat hl'] at hun;cases hun
     ·rw [getD_set_ne true hji] at hl;rw [if_neg (fun e=>hji (zEn hat hj (by omega)))];obtain ⟨ti',q1,q2⟩:=hr.done j u hj hl;refine ⟨ti',q1,?_⟩;rw [q2,zB6 (gf':=gf) (was':=fun x=>(listed.setIfInBounds i true).getD x true) fun i' hi'=>⟨(keepI hi').symm,fun _=>rfl⟩]
    ·by_cases hji:i=j
     ·subst hji;rw [q9] at hl;cases hl
     ·rw [getD_set_ne true hji] at hl;have hne:nx+zBO ops.toList i≠nx+zBO ops.toList j:=fun e=>hji (zEn hat hj (by omega));obtain ⟨q1,q2⟩:=hr.wait j u hj hl;exact ⟨by rw [yL,if_neg hne];exact q1,by rw [List.getElem?_set_ne hne];exact q2⟩
    ·rw [yL] at hi';split at hi'
     ·rename_i e;exact .inr ⟨i,t,hat,e.symm⟩
     ·exact hr.only id ob hi'
    ·rw [keepI hi'] at hl;have:=hr.first i' j u hi' hj hl
     by_cases hji:i=j
     ·subst hji;exact q9
     ·rw [getD_set_ne true hji];exact this
theorem zC4 (R:jK P T) (hall: ∀ (i:Nat) (o:Oper),ops[i]? =some o->yS N o=true): ∀ (l:List Oper) (t:Nat) (listed:Array Bool) {st:St} {a:Act} {w:World} {K:St->Prop},(∀ j:Nat,l[j]? =ops[t+j]?)->
 zCp ops l.length t listed=true->GA B N st a w->zAN T true ops l st K->(∀ st' a' w',K st'->GA B N st' a' w'->Q .normal a' w')->wpAnyIn (FR r) n P .any ops Q l.length listed a w
 | [],t,listed,st,a,w,K,_,hB,h,hk,hQ=>⟨by simpa [zCp] using hB,hQ _ _ _ hk h⟩
 | o :: l, t,listed,st,a,w,K,hl,hB,h,hk,hQ=>by
   have h0:ops[t]? =some o:=by simpa using (hl 0).symm
   have ho:=hall t o h0;have hl': ∀ j:Nat,l[j]? =ops[t+1+j]? :=fun j=>by have:=hl (j+1);simpa [Nat.add_assoc,Nat.add_comm 1 j] using this
   simp only [z8,zCp,zC,beq_iff_eq] at hB;obtain ⟨hr,hB'⟩:=hB;refine ⟨fun h=>(by rw [h] at hr;cases hr),fun i hi=> ?_⟩;rw [hr] at hi;obtain rfl:=zF.1 hi
   have run: ∀ {st:St},GA B N st a w->aop T true o st (fun st'=>zAN T true ops l st' K)->o.wpIn (FR r) n P a w (wpAnyIn (FR r) n P .any ops Q l.length (listed.setIfInBounds i true)) Q:=fun h hk =>
    z14 R h ho hk fun st' a' w' hk' h'=>zC4 R hall l (i+1) _ hl' hB' h' hk' hQ
   have skip: ∀ {st:St},GA B N st a w->zAN T true ops l (st.put o.dst .undef) K->wpAnyIn (FR r) n P .any ops Q l.length (listed.setIfInBounds i true) (a.put o.dst undef) w:=fun h hk =>
    zC4 R hall l (i+1) _ hl' hB' (zBG h ho) hk hQ
   unfold wpOpIn;simp only [h0];simp only [zAN,St.force_eq] at hk;cases hg:o.guard with
   | none =>
     simp only [hg] at hk;rw [if_pos (by simp [Region.wanted,hg])];exact run h hk
   | some jw =>
     obtain ⟨j,want⟩:=jw;simp only [hg] at hk;obtain ⟨σ,β,hgg⟩:=h.gg;split at hk
     ·rename_i b hb;obtain ⟨d,hd,hd2⟩:=j8 (ops:=ops) (env:=st.env) (j:=j) (by rw [hb];simp);rw [hd2] at hb;have hv:=hgg.env d;rw [hb] at hv;have hy:=zEq (ops:=ops) hd (show a.tmps.getD d undef= .bool b from hv);rw [hd] at hk;cases b with
      | true =>
        cases want with
        | true =>
          rw [if_pos (by simp [Region.wanted,hg,hy])];exact run (zBt h hb) hk
        | false =>
          rw [if_neg (by simp [Region.wanted,hg,hy])];exact ⟨fun f _=>trivial,skip (zBt h hb) hk⟩
      | false =>
        cases want with
        | true =>
          rw [if_neg (by simp [Region.wanted,hg,hy])];exact ⟨fun f _=>trivial,skip (zBt h hb) hk⟩
        | false =>
          rw [if_pos (by simp [Region.wanted,hg,hy])];exact run (zBt h hb) hk
     ·rename_i vs hb;obtain ⟨d,hd,hd2⟩:=j8 (ops:=ops) (env:=st.env) (j:=j) (by rw [hb];simp);rw [hd2] at hb;have hv:=hgg.env d;rw [hb] at hv;rw [if_neg (by simp [Region.wanted,hg,zFi hd hv.1])];exact ⟨fun f _=>trivial,skip h hk⟩
     ·exact hk.elim
theorem zHN {t:TypeId} {m:Nat} {ps:List (Nat×AV)} {d:Option Tmp} (h:zC2 T t m ps=none):zCT T t m ps st d=none:=by
 unfold zC2 at h;unfold zCT;split at h
 ·split at h
  ·split at h
   ·split at h
    ·cases h
    ·rfl
   ·rfl
  ·rfl
 ·rfl
theorem zGL {o:Oper} (hc:jZ o.op=true) (h:jW T o st=none):zJf T o st=none:=by
 unfold jW at h;split at h
 ·cases h
 ·rename_i hn;unfold zJf;split
  ·rfl
  rename_i hv;unfold zCH;obtain ⟨dst,op,type,pos,after,guard⟩:=o;cases op<;>simp only [jZ] at hc<;>first|contradiction|rfl|skip
  case buildSlice t m ps=>exact zHN hn
  case call c =>
   obtain ⟨callee,args,ts⟩:=c;cases callee with
   | builtin b=>cases b<;>first|contradiction|rfl
   | value v=>cases hv
   | _=>rfl
end
end Go.Vm
/- A drawn region in whose midst a row grows: the calm operations behind the append, which do not wait for it, may come ahead of it or behind it. -/
namespace Go.Vm
open Go.RowKit
theorem zDK (ops:Array Oper) (o:Oper):slotsOf ops o=o.looksAt ops:=by
 unfold slotsOf Oper.looksAt
 congr 1
 cases o.guard with
 | none=>rfl
 | some jw =>
   obtain ⟨j,w⟩:=jw;simp only;cases ops[j]? with
   | none=>rfl
   | some o' =>
     simp only [Option.bind_some];cases o'.dst<;>rfl
theorem z4w {i r:Nat} (h:(!Nat.beq i r)=true):Nat.beq i r=false:=by simpa using h
theorem AS.kill_free {r:Nat} {a:AS} (h:a.free r=true):kill r a=a:=by
 cases a<;>simp only [kill]<;>simp only [AS.free] at h<;>(try rw [z4w h])
theorem zHo {r:Nat} : ∀ {l:List AS},l.all (AS.free r)=true->l.map (kill r)=l
 | [],_=>rfl
 | a::l,h=>by
   simp only [List.all_cons,zC] at h;rw [List.map_cons,AS.kill_free h.1,zHo h.2]
theorem AV.kill_free {r:Nat} {v:AV} (h:v.free r=true):v.mapAS (kill r)=v:=by
 cases v with
 | s a=>simp only [AV.mapAS];rw [AS.kill_free h]
 | agg l=>simp only [AV.mapAS];rw [zHo h]
 | tup l =>
   simp only [AV.mapAS]
   congr 1
   simp only [AV.free] at h
   induction l with
   | nil=>rfl
   | cons v l ih =>
     simp only [List.all_cons,zC] at h;rw [List.map_cons,ih h.2]
     congr 1
     cases v with
     | s a=>simp only [AV.map1];rw [AS.kill_free h.1]
     | agg l=>simp only [AV.map1];rw [zHo h.1]
     | tup l=>cases h.1
theorem zRO {r:Nat} : ∀ {l:Env},(l.all fun x=>x.2.free r)=true->Env.mapAS (kill r) l=l
 | [],_=>rfl
 | (t,v)::l,h=>by
   simp only [List.all_cons,zC] at h;simp only [Env.mapAS];rw [AV.kill_free h.1,zRO h.2]
theorem Ob.kill_free {r:Nat} {o:Ob} (h:o.free r=true):o.mapAS (kill r)=o:=by
 cases o with
 | flat u cs=>simp only [Ob.mapAS];rw [zHo h]
 | fr X l=>simp only [Ob.mapAS];rw [zRO h]
 | _=>rfl
theorem zER {r:Nat} : ∀ {hp:jH},zDY r hp=true->∀ id,id≠r->hget (hp.mapAS (kill r)) id=hget hp id
 | [],_,_,_=>rfl
 | (k,o)::l,h,id,hne=>by
   simp only [zDY,zC,Bool.or_eq_true] at h;simp only [jH.mapAS,yL];split
   ·rename_i e;rcases h.1 with hb|hf
    ·exact absurd (e.symm.trans (zH hb)) hne
    ·rw [Ob.kill_free hf]
   ·exact zER h.2 id hne
theorem zD6 {r:Nat} : ∀ {hp:jH},zDY r hp=true->∀ id t cs,id≠r->hget hp id=some (.flat t cs)->cs.all (AS.free r)=true
 | [],_,_,_,_,_,h=>by cases h
 | (k,o)::l,h,id,t,cs,hne,hi=>by
   simp only [zDY,zC,Bool.or_eq_true] at h;simp only [yL] at hi;split at hi
   ·rename_i e;cases hi;rcases h.1 with hb|hf
    ·exact absurd (e.symm.trans (zH hb)) hne
    ·exact hf
   ·exact zD6 h.2 id t cs hne hi
theorem AS.free_okP {r:Nat} {a:AS} (h:a.free r=true):a.okP (fun i=> !Nat.beq i r)=true:=by cases a<;>exact h
theorem AV.free_okP {r:Nat} {v:AV} (h:v.free r=true):v.okP (fun i=> !Nat.beq i r):=by
 cases v with
 | s a=>exact AS.free_okP h
 | agg l=>exact zK.2 fun a ha=>AS.free_okP (zK.1 h a ha)
 | tup l=>trivial
theorem zKQ {r:Nat} (u:Value):(AS.ofVal u).free r=true:=by
 unfold AS.ofVal;split<;>rfl
theorem zGS {r:Nat} (u:Value):(AV.ofVal u).free r=true:=by
 unfold AV.ofVal;split
 ·simp only [AV.free,List.all_map,zK];intro a _;exact zKQ a
 ·exact zKQ u
theorem zB3 {o:Oper} {x y:Operand} {d:Tmp} (h:zDg o=some (x,y,d)):o.guard=none/\o.dst=some d/\∃ ts,o.op= .call ⟨.builtin .append,#[x,y],ts⟩:=by
 unfold zDg at h;split at h
 ·rename_i c d' hop hg hd;split at h
  ·rename_i x' y' hc ha;cases h;obtain ⟨callee,args,ts⟩:=c;simp only at hc ha;subst hc;have:args= #[x,y]:=by rw [<- Array.toArray_toList (xs:=args),ha]
   subst this;exact ⟨hg,hd,ts,hop⟩
  ·cases h
 ·cases h
theorem zFO {T:Tab} {ts:List TypeId} {xv yv:AV} {env:Env} {hp:jH} {nx:Nat} {d:Option Tmp} {res} (h:zB5 T ts xv yv ⟨env,hp,nx⟩ d=some res) :
 ∃ r s n n' row q,xv= .s (.own r s n)/\(∃ ob,hget hp r=some ob)/\res=(none,q,(⟨env.mapAS (kill r),zA3 (hp.mapAS (kill r)) r row,nx⟩:St).put d (.s (.own r 0 n')))/\∀ env',zB5 T ts xv yv ⟨env',hp,nx⟩ d=some (none,q,(⟨env'.mapAS (kill r),zA3 (hp.mapAS (kill r)) r row,nx⟩:St).put d (.s (.own r 0 n'))):=by
 unfold zB5 at h ⊢;dsimp only at h ⊢;split at h
 case h_2=>cases h
 rename_i t t' id s n e' ys hys;split at h
 case h_2=>cases h
 rename_i u' e u xs hb hd hid;split at h
 case h_2=>cases h
 rename_i he ui hdec hbu hui;split at h
 case h_2=>cases h
 rename_i c1 c2 c3;refine ⟨id,s,n,n+ys.length,.row e u ((xs.drop s).take n++(he▸ys)),some (((n:Int)+ys.length)*ui.bytes<=140737488355328),rfl,⟨_,hid⟩,(Option.some.inj h).symm,fun env'=> ?_⟩;simp only [hys,hb,hd,hid,hdec,hbu,hui,c1,c2,c3]
section
variable {P:Program} {B:Base} {w:World} {σ:Sig} {β:yQ} {st:St} {T:Tab} {N:Nat} {a:Act} {r:Option Nat} {n:Nat} {ops:Array Oper} {Q:Exit->Act->World->Prop}
def YA (T:Tab) (ops:Array Oper) (hp:jH) (f row:Nat) (x y:Operand) (xv yv vF:AV) (i:Nat) (o:Oper) (v:AV) (e:Fr):Prop :=
 (i=f/\v=vF/\(x∈o.op.operands/\y∈o.op.operands)/\jI e x=xv/\jI e y=yv)\/
 (i≠f/\((qF ops e o=some true/\∃ p q,jM T o.op (jI e) hp=some (p,q,v)/\Opt q)\/(qF ops e o=some false/\v= .undef))/\(f<i->(∀ t∈o.looksAt ops,(e t).free row=true)/\(o.dst≠none->v.free row=true)))
theorem zAc {o:Oper} {e:Fr} {d:Option Tmp} {u:AV} (h: ∀ t,d=some t->t∉o.looksAt ops):qF ops (upd e d u) o=qF ops e o:=by
 unfold qF;cases hg:o.guard with
 | none=>rfl
 | some jw =>
   obtain ⟨j,want⟩:=jw;simp only;cases hs:qU ops j with
   | none=>rfl
   | some s =>
     simp only
     have:upd e d u s=e s:=by
      cases d with
      | none=>rfl
      | some t =>
        have hne:t≠s:=by
         rintro rfl;refine h t rfl ?_;simp only [Oper.looksAt,hg,yC];right;unfold qU at hs;cases ho:ops[j]? with
         | none=>simp [ho] at hs
         | some o'=>simp only [ho] at hs;simp [hs]
        simp [upd,hne]
     rw [this]
theorem zCh {o:Oper} {t:Tmp} (h:Operand.tmp t∈o.op.operands):t∈o.looksAt ops:=by
 simp only [Oper.looksAt,yC,List.mem_filterMap];exact .inl ⟨.tmp t,by simpa using h,rfl⟩
theorem yV {o:Oper} {e:Fr} {d:Option Tmp} {u:AV} (h: ∀ t,d=some t->t∉o.looksAt ops): ∀ x∈o.op.operands,jI (upd e d u) x=jI e x:=fun x hx=>zIa fun t ht hxt=>h t ht (by subst hxt;exact zCh hx)
theorem upd_same {e:Fr} {d:Option Tmp} {u:AV} {t:Tmp} (h: ∀ t',d=some t'->t'≠t):upd e d u t=e t:=by
 cases d with
 | none=>rfl
 | some t'=>simp only [upd];rw [if_neg (h t' rfl)]
theorem zYu {hp:jH} {f row:Nat} {x y:Operand} {xv yv vF:AV} :zOt (YA T ops hp f row x y xv yv vF) ops:=by
 intro i o v u e d h;unfold YA;rw [zAc h,qD (yV h)];have: ∀ t∈o.looksAt ops,upd e d u t=e t:=fun t ht=>upd_same fun t' hd e=>h t' hd (e▸ht);constructor
 ·rintro (⟨h1,h2,h3,h4⟩|⟨h1,h2,h3⟩)
  ·rw [yV h x h3.1,yV h y h3.2] at h4;exact .inl ⟨h1,h2,h3,h4⟩
  ·exact .inr ⟨h1,h2,fun hlt=>⟨fun t ht=>by rw [<- this t ht];exact (h3 hlt).1 t ht,(h3 hlt).2⟩⟩
 ·rintro (⟨h1,h2,h3,h4⟩|⟨h1,h2,h3⟩)
  ·rw [<- yV h x h3.1,<- yV h y h3.2] at h4;exact .inl ⟨h1,h2,h3,h4⟩
  ·exact .inr ⟨h1,h2,fun hlt=>⟨fun t ht=>by rw [this t ht];exact (h3 hlt).1 t ht,(h3 hlt).2⟩⟩
theorem zOQ {draw:Bool} {o:Oper} {l:List Oper} {st:St} {K:St->Prop} (h:zAN T draw ops (o::l) st K):zAN T draw ops [o] st (fun s=>zAN T draw ops l s K):=by
 simp only [zAN] at h ⊢;exact h
theorem zCB (R:jK P T) {o:Oper} (hc:jZ o.op=true) (ho:yS N o=true) {env:Env} {hp:jH} {nx:Nat} (h:GA B N ⟨env,hp,nx⟩ a w) {K:St->Prop} (hk:zAN T true ops [o] ⟨env,hp,nx⟩ K) :
 ∃ v env' a' w',yY env'=upd (yY env) o.dst v/\K ⟨env',hp,nx⟩/\GA B N ⟨env',hp,nx⟩ a' w'/\
   ((qF ops (yY env) o=some true/\∃ p q,jM T o.op (jI (yY env)) hp=some (p,q,v)/\Opt q)\/(qF ops (yY env) o=some false/\v= .undef)):=by
 have run: ∀ {env1:Env},yY env1=yY env->qF ops (yY env) o=some true->aop T true o ⟨env1,hp,nx⟩ K->
  ∃ v env' a' w',yY env'=upd (yY env) o.dst v/\K ⟨env',hp,nx⟩/\GA B N ⟨env',hp,nx⟩ a' w'/\
  ((qF ops (yY env) o=some true/\∃ p q,jM T o.op (jI (yY env)) hp=some (p,q,v)/\Opt q)\/(qF ops (yY env) o=some false/\v= .undef)):=by
  intro env1 hE hw hk;have hEv:y6 env1=jI (yY env):=by rw [<- yZ,hE]
  have h1:GA B N ⟨env1,hp,nx⟩ a w:=by
   obtain ⟨σ,β,hg⟩:=h.gg;exact ⟨h.defers,h.size,σ,β,hg.congr hE.symm fun _=>rfl⟩
  have core: ∀ {p q:Option Prop} {st':St},zBm T true o ⟨env1,hp,nx⟩=some (p,q,st')->Opt p/\(Opt q->K st'->
   ∃ v env' a' w',yY env'=upd (yY env) o.dst v/\K ⟨env',hp,nx⟩/\GA B N ⟨env',hp,nx⟩ a' w'/\
   ((qF ops (yY env) o=some true/\∃ p q,jM T o.op (jI (yY env)) hp=some (p,q,v)/\Opt q)\/(qF ops (yY env) o=some false/\v= .undef))):=by
   intro p q st' hs;unfold zBm at hs;simp only at hs;split at hs
   ·rename_i res hcs;cases Option.some.inj hs;unfold jW at hcs;split at hcs
    ·rename_i p' q' v hv;cases hcs;obtain ⟨g1,g2⟩:=zBs (r:=none) (n:=0) R h1 ho hv;refine ⟨g1,fun hq hk'=> ?_⟩;obtain ⟨a',w',hga'⟩:=zDN (g2 hq (K:=fun a' w'=>GA B N ((⟨env1,hp,nx⟩:St).put o.dst v) a' w') (Q:=fun _ _ _=>False) fun _ _ h=>h);obtain ⟨env',e1,e2⟩:=zAH env1 hp nx o.dst v;rw [e1] at hk' hga';refine ⟨v,env',a',w',by rw [e2,hE],hk',hga',.inl ⟨hw,p,q,?_,hq⟩⟩;rw [<- hEv];exact hv
    ·cases hcs
   ·rename_i hcs;rw [zGL hc hcs] at hs;cases hs
  simp only [aop] at hk;unfold zRp at hk;simp only [St.force_eq] at hk;split at hk
  ·rename_i st' hs;exact (core hs).2 trivial hk
  ·rename_i p st' hs;obtain ⟨h1,h2⟩:=core hs;exact h2 trivial (hk.out h1)
  ·rename_i q st' hs;obtain ⟨h1,h2⟩:=core hs;obtain ⟨k1,k2⟩:=hk.out;exact h2 k1 k2
  ·rename_i p q st' hs;obtain ⟨h1,h2⟩:=core hs;obtain ⟨k1,k2⟩:=(hk.out h1).out;exact h2 k1 k2
  ·exact hk.elim
 have skip: ∀ {env1:Env},yY env1=yY env->qF ops (yY env) o=some false->K ((⟨env1,hp,nx⟩:St).put o.dst .undef)->
  ∃ v env' a' w',yY env'=upd (yY env) o.dst v/\K ⟨env',hp,nx⟩/\GA B N ⟨env',hp,nx⟩ a' w'/\
  ((qF ops (yY env) o=some true/\∃ p q,jM T o.op (jI (yY env)) hp=some (p,q,v)/\Opt q)\/(qF ops (yY env) o=some false/\v= .undef)):=by
  intro env1 hE hw hk
  have h1:GA B N ⟨env1,hp,nx⟩ a w:=by
   obtain ⟨σ,β,hg⟩:=h.gg;exact ⟨h.defers,h.size,σ,β,hg.congr hE.symm fun _=>rfl⟩
  obtain ⟨env',e1,e2⟩:=zAH env1 hp nx o.dst .undef;have hga:=zBG h1 ho;rw [e1] at hk hga;exact ⟨.undef,env',_,w,by rw [e2,hE],hk,hga,.inr ⟨hw,rfl⟩⟩
 simp only [zAN,St.force_eq] at hk;cases hg:o.guard with
 | none =>
   simp only [hg] at hk;exact run rfl (by simp [qF,hg]) hk
 | some jw =>
   obtain ⟨j,want⟩:=jw;simp only [hg] at hk;split at hk
   ·rename_i b hb;obtain ⟨d,hd,hd2⟩:=j8 (ops:=ops) (env:=env) (j:=j) (by rw [hb];simp);rw [hd2] at hb;rw [hd] at hk;have hw:qF ops (yY env) o=some (b==want):=by simp [qF,hg,hd,hb]
    have hE: ∀ b',yY env d= .s (.bool b')->yY ((d,.s (.bool b'))::env)=yY env:=fun b' hb'=>by
     funext x;rw [qQ];split
     ·rename_i e;subst e;exact hb'.symm
     ·rfl
    cases b with
    | true =>
      cases want with
      | true=>exact run (hE _ hb) hw hk
      | false=>exact skip (hE _ hb) hw hk
    | false =>
      cases want with
      | true=>exact skip (hE _ hb) hw hk
      | false=>exact run (hE _ hb) hw hk
   ·rename_i vs hb;obtain ⟨d,hd,hd2⟩:=j8 (ops:=ops) (env:=env) (j:=j) (by rw [hb];simp);rw [hd2] at hb;exact skip rfl (by simp [qF,hg,hd,hb]) hk
   ·exact hk.elim
theorem zAm {Y:Nat->Oper->AV->Fr->Prop} {em ef:Fr} : ∀ {l1 l2:List Oper} {i:Nat} {e:Fr},zAd Y em i l1 e->zAd Y ef (i+l1.length) l2 em->zAd Y ef i (l1++l2) e
 | [],l2,i,e,h1,h2=>by
   obtain rfl:e=em:=h1;simpa using h2
 | o::l1,l2,i,e,⟨v,h1,h3⟩,h2=>⟨v,h1,zAm h3 (by rw [show i+1+l1.length=i+(o::l1).length by simp;omega];exact h2)⟩
theorem zFo (R:jK P T) {hp:jH} {nx f:Nat} : ∀ (l:List Oper) (i:Nat) {env:Env} {a:Act} {w:World} {K:St->Prop},i+l.length<=f->(∀ o∈l,jZ o.op=true/\yS N o=true)->
 GA B N ⟨env,hp,nx⟩ a w->zAN T true ops l ⟨env,hp,nx⟩ K->∃ env' a' w',K ⟨env',hp,nx⟩/\GA B N ⟨env',hp,nx⟩ a' w'/\∀ row x y xv yv vF,zAd (YA T ops hp f row x y xv yv vF) (yY env') i l (yY env)
 | [],i,env,a,w,K,_,_,h,hk=>⟨env,a,w,hk,h,fun _ _ _ _ _ _=>rfl⟩
 | o::l,i,env,a,w,K,hi,hl,h,hk=>by
   simp only [z8] at hi;obtain ⟨hc,ho⟩:=hl o (by simp);obtain ⟨v,env1,a1,w1,e1,k1,g1,y1⟩:=zCB R hc ho h (zOQ hk);obtain ⟨env',a',w',k2,g2,y2⟩:=zFo R (f:=f) l (i+1) (by omega) (fun o' h'=>hl o' (by simp [h'])) g1 k1;exact ⟨env',a',w',k2,g2,fun row x y xv yv vF=>⟨v,.inr ⟨by omega,y1,fun hlt=>absurd hlt (by omega)⟩,by rw [<- e1];exact y2 row x y xv yv vF⟩⟩
theorem zJp (R:jK P T) {hp:jH} {nx f row:Nat} {oF:Oper} {d:Tmp} {x y:Operand} (hx:x∈oF.op.operands) (hy:y∈oF.op.operands) :
 ∀ (l:List Oper) (i:Nat) {env:Env} {a:Act} {w:World} {K:St->Prop},f<i->(∀ j:Nat,j<l.length->l[j]? =ops[i+j]?)->zFZ ops oF d l=true->(∀ o∈l,yS N o=true)->
 GA B N ⟨env,hp,nx⟩ a w->zYx T row ops l ⟨env,hp,nx⟩ K->∃ env' a' w',K ⟨env',hp,nx⟩/\GA B N ⟨env',hp,nx⟩ a' w'/\(jI (yY env') x=jI (yY env) x/\jI (yY env') y=jI (yY env) y)/\
  ∀ xv yv vF,zAd (YA T ops hp f row x y xv yv vF) (upd (yY env') (some d) vF) i l (upd (yY env) (some d) vF)
 | [],i,env,a,w,K,_,_,_,_,h,hk=>⟨env,a,w,hk,h,⟨rfl,rfl⟩,fun _ _ _=>rfl⟩
 | o ::l,i,env,a,w,K,hi,hop,hw,hl,h,hk=>by
   simp only [zFZ,zC,Bool.not_eq_true'] at hw;obtain ⟨⟨hc,hlk,hdst⟩,hw'⟩:=hw;simp only [zYx] at hk;split at hk
   case h_2=>exact hk.elim
   rename_i hfo;obtain ⟨v,env1,a1,w1,e1,k1,g1,y1⟩:=zCB R hc (hl o (by simp)) h hk;split at k1
   case h_2=>exact k1.elim
   rename_i hfd
   obtain ⟨env',a',w',k2,g2,⟨ex,ey⟩,y2⟩:=zJp R (f:=f) hx hy l (i+1) (by omega) (fun j hj=>by
    have:=hop (j+1) (by simp;omega);simpa [Nat.add_assoc,Nat.add_comm 1 j] using this) hw' (fun o' h'=>hl o' (by simp [h'])) g1 k1
   have h0:ops[i]? =some o:=by simpa using (hop 0 (by simp)).symm
   have hdl: ∀ t,some d=some t->t∉o.looksAt ops:=fun t e hm=>by
    cases e;have:(o.looksAt ops).contains d=true:=by simpa using hm
    rw [hlk] at this;cases this
   have hdd: ∀ t,some d=some t->o.dst≠some t:=fun t e hd=>by
    cases e;rw [hd] at hdst;simp only [zC,Bool.not_eq_true'] at hdst;rw [Nat.beq_refl] at hdst;cases hdst.1
   have hdF: ∀ t,o.dst=some t->t∉oF.looksAt ops:=fun t hd hm=>by
    rw [hd] at hdst;simp only [zC,Bool.not_eq_true'] at hdst;have:(oF.looksAt ops).contains t=true:=by simpa using hm
    rw [this] at hdst;cases hdst.2
   refine ⟨env',a',w',k2,g2,⟨?_,?_⟩,fun xv yv vF=>⟨v,.inr ⟨by omega,?_,fun _=>⟨fun t ht=> ?_,fun hne=> ?_⟩⟩,?_⟩⟩
   ·rw [ex,e1];exact yV hdF x hx
   ·rw [ey,e1];exact yV hdF y hy
   ·rw [zAc hdl,qD (yV hdl)];exact y1
   ·rw [upd_same fun t' e=>by cases e;rintro rfl;exact hdl _ rfl ht];simp only [zBr,zK,zDK] at hfo;exact hfo t ht
   ·cases hd:o.dst with
    | none=>exact absurd hd hne
    | some t =>
      simp only [zCl,hd] at hfd;have:yY env1 t=v:=by rw [e1,hd];simp [upd]
      rw [this] at hfd;exact hfd
   ·rw [zGP hdd,<- e1];exact y2 xv yv vF
structure FA (B:Base) (N:Nat) (ops:Array Oper) (k f row:Nat) (d:Tmp) (hp:jH) (nx:Nat) (hpF:jH) (listed:Array Bool) (e:Fr) (a:Act) (w:World):Prop where
 dn: ∀ j i,j<k->listed.getD j true=true->waits ops j i=true->listed.getD i true=true
 pre:listed.getD f true=false->∃ env,yY env=e/\GA B N ⟨env,hp,nx⟩ a w
 post:listed.getD f true=true->∃ env,(∀ t,yY env t=if t=d then e t else (e t).mapAS (kill row))/\GA B N ⟨env,hpF,nx⟩ a w
theorem zCu {k:Nat} {listed:Array Bool} (dn: ∀ j i,j<k->listed.getD j true=true->waits ops j i=true->listed.getD i true=true): ∀ (i:Nat) (acc:List Nat),zCL ops i acc=true->(∀ j∈acc,j<k/\listed.getD j true=true)->i<=k->∀ i'<i,listed.getD i' true=true
 | 0,_,_,_,_,i',h=>absurd h (by omega)
 | i + 1,acc,hn,ha,hik,i',hi'=>by
   simp only [zCL] at hn;split at hn
   case h_2=>cases hn
   rename_i hany;obtain ⟨j,hj,hw⟩:=List.any_eq_true.1 hany;have hi:listed.getD i true=true:=dn j i (ha j hj).1 (ha j hj).2 hw
   by_cases e:i'=i
   ·subst e;exact hi
   ·exact zCu dn i (i::acc) hn (fun j hj=>by
     rcases zT.1 hj with rfl|hj
     ·exact ⟨by omega,hi⟩
     ·exact ha j hj) (by omega) i' (by omega)
theorem zCX {l:Array Bool} {i:Nat} (h:l.getD i false=true):l.getD i true=true:=by
 rcases Nat.lt_or_ge i l.size with h'|h'
 ·simpa [zL,h'] using h
 ·simp [zL,Array.getElem?_eq_none h'] at h
theorem zIf {i j:Nat} {listed:Array Bool} (h:i∈Region.ready .any ops listed) (hw:waits ops i j=true):listed.getD j true=true:=by
 obtain ⟨_,o,ho,hall⟩:=mem_ready.1 h;unfold waits at hw;rw [ho] at hw;obtain ⟨x,hx,hb⟩:=Array.any_eq_true'.1 hw;simp only [zC,beq_iff_eq] at hb;have:=hall x hx hb.1;rw [hb.2] at this;exact zCX this
theorem zOH (R:jK P T) (hall: ∀ (i:Nat) (o:Oper),ops[i]? =some o->yS N o=true) {hp hpF:jH} {nx k f row fuel:Nat} {d:Tmp} {oF:Oper} {x y:Operand} {xv yv vF:AV} {ef:Fr} {q:Option Prop} (lk:Array Bool)
 (hfk:f<k) (hoF:ops[f]? =some oF) (hgF:oF.guard=none) (hdF:oF.dst=some d) (hq:Opt q)
 (hF: ∀ env,y6 env x=xv->y6 env y=yv->zCH T oF ⟨env,hp,nx⟩=some (none,q,(⟨env.mapAS (kill row),hpF,nx⟩:St).put (some d) vF)) (hneed:zCL ops f [f]=true)
 (hsame: ∀ id,id≠row->hget hpF id=hget hp id) (hflat:zFd (fun i=> !Nat.beq i row) hp)
 (hwin: ∀ i o,f<i->i<k->ops[i]? =some o->d∉o.looksAt ops/\o.dst≠some d)
 (htail: ∀ (a:Act) (w:World) (listed:Array Bool) (env:Env),(∀ i<k,listed.getD i true=true)->(∀ i,listed.getD i true=lk.getD i true)->listed.size=lk.size->(∀ t,yY env t=if t=d then ef t else (ef t).mapAS (kill row))->GA B N ⟨env,hpF,nx⟩ a w->wpAnyIn (FR r) n P .any ops Q fuel listed a w) :
 ∀ (m:Nat) (listed:Array Bool) (e:Fr) (a:Act) (w:World),zDW (YA T ops hp f row x y xv yv vF) ops k ef m listed e->(∀ i,k<=i->listed.getD i true=lk.getD i true)->(∀ i<k,lk.getD i true=true)->listed.size=lk.size->FA B N ops k f row d hp nx hpF listed e a w->
   wpAnyIn (FR r) n P .any ops Q (m+fuel) listed a w
 | 0,listed,e,a,w,h,hl1,hl2,hs,hr=>by
   obtain ⟨h1,rfl⟩:=h;rw [zD];obtain ⟨env,e1,g1⟩:=hr.post (h1 f hfk);refine htail a w listed env h1 (fun i=> ?_) hs e1 g1
   by_cases hi:i<k
   ·rw [h1 i hi,hl2 i hi]
   ·exact hl1 i (by omega)
 | m + 1,listed,e,a,w,h,hl1,hl2,hs,hr=>by
   rw [show m+1+fuel=(m+fuel)+1 by omega];refine ⟨fun h0=>(h.1 h0).elim,fun i hi=> ?_⟩;obtain ⟨hik,o,v,ho,hy,hk⟩:=h.2 i hi;have hun:=(mem_ready.1 hi).1;have hop:=hall i o ho
   have nxt: ∀ (a':Act) (w':World),FA B N ops k f row d hp nx hpF (listed.setIfInBounds i true) (upd e o.dst v) a' w'->wpAnyIn (FR r) n P .any ops Q (m+fuel) (listed.setIfInBounds i true) a' w':=fun a' w' hr' =>
    zOH R hall lk hfk hoF hgF hdF hq hF hneed hsame hflat hwin htail m _ _ a' w' hk (fun j hj=>by rw [getD_set_ne true (by omega)];exact hl1 j hj) hl2 (by simpa using hs) hr'
   have dn': ∀ j i',j<k->(listed.setIfInBounds i true).getD j true=true->waits ops j i'=true->(listed.setIfInBounds i true).getD i' true=true:=fun j i' hj hl hw=>by
    have hres:listed.getD i' true=true:=by
     by_cases e:i=j
     ·subst e;exact zIf hi hw
     ·rw [getD_set_ne true e] at hl;exact hr.dn j i' hj hl hw
    by_cases e:i=i'
    ·subst e;exact q9
    ·rw [getD_set_ne true e];exact hres
   unfold wpOpIn;simp only [ho];rcases hy with ⟨rfl,rfl,_,hxv,hyv⟩|⟨hif,hyc,hfree⟩
   ·-- the append
    rw [hoF] at ho;cases ho;obtain ⟨env,e1,g1⟩:=hr.pre hun;rw [if_pos (by simp [Region.wanted,hgF])];have he:=hF env (by rw [<- yZ,e1];exact hxv) (by rw [<- yZ,e1];exact hyv);refine (zHK R g1 hop he).2 hq fun a' w' hga=>nxt a' w' ⟨dn',fun hl=> ?_,fun _=>⟨_,fun t=> ?_,hga⟩⟩
    ·rw [q9] at hl;cases hl
    ·show yY ((d,v)::env.mapAS (kill row)) t=_;rw [qQ,hdF]
     by_cases e:t=d
     ·subst e;simp [upd]
     ·rw [if_neg (Ne.symm e),if_neg e,j7 _ rfl,e1];simp only [upd];rw [if_neg (Ne.symm e)]
   ·have keepF:(listed.setIfInBounds i true).getD f true=listed.getD f true:=getD_set_ne true hif;cases hlf:listed.getD f true with
    | false =>
      obtain ⟨env,e1,g1⟩:=hr.pre hlf
      have step: ∀ {a':Act} {w':World} {u:AV},GA B N ((⟨env,hp,nx⟩:St).put o.dst u) a' w'->u=v->FA B N ops k f row d hp nx hpF (listed.setIfInBounds i true) (upd e o.dst v) a' w':=fun {a' w' u} hga hu=>by
       subst hu;obtain ⟨env',e2,e3⟩:=zAH env hp nx o.dst u;rw [e2] at hga;exact ⟨dn',fun _=>⟨env',by rw [e3,e1],hga⟩,fun hl=>by rw [keepF,hlf] at hl;cases hl⟩
      rcases hyc with ⟨hw,p,q',hc,hq'⟩|⟨hw,rfl⟩
      ·rw [if_pos (jR hw e1 g1)];rw [<- e1,yZ] at hc;exact (zBs R g1 hop hc).2 hq' fun a' w' hga=>nxt a' w' (step hga rfl)
      ·rw [if_neg (by rw [jR hw e1 g1];simp)];exact ⟨fun f _=>trivial,nxt _ _ (step (zBG g1 hop) rfl)⟩
    | true =>
      obtain ⟨env,e1,g1⟩:=hr.post hlf
      have hfi:f<i:=by
       rcases Nat.lt_trichotomy i f with hlt|heq|hgt
       ·have:=zCu hr.dn f [f] hneed (fun j hj=>by
         obtain rfl:=zF.1 hj;exact ⟨hfk,hlf⟩) (by omega) i hlt
        rw [this] at hun;cases hun
       ·exact absurd heq hif
       ·exact hgt
      obtain ⟨hf1,hf2⟩:=hfree hfi;obtain ⟨hd1,hd2⟩:=hwin i o hfi hik ho
      have hlook: ∀ t∈o.looksAt ops,yY env t=e t:=fun t ht=>by
       rw [e1,if_neg (by rintro rfl;exact hd1 ht),AV.kill_free (hf1 t ht)]
      have hopnd: ∀ x∈o.op.operands,y6 env x=jI e x:=fun x hx=>by
       cases x with
       | tmp t=>exact hlook t (zCh hx)
       | _=>rfl
      have hwant: ∀ {b},qF ops e o=some b->qF ops (yY env) o=some b:=fun {b} hw=>by
       rw [<- hw];unfold qF;cases hg:o.guard with
       | none=>rfl
       | some jw =>
         obtain ⟨j,want⟩:=jw;simp only;cases hs:qU ops j with
         | none=>rfl
         | some s =>
           simp only
           rw [hlook s (by
            simp only [Oper.looksAt,hg,yC];right;unfold qU at hs;cases ho:ops[j]? with
            | none=>simp [ho] at hs
            | some o'=>simp only [ho] at hs;simp [hs])]
      have step: ∀ {a':Act} {w':World} {u:AV},GA B N ((⟨env,hpF,nx⟩:St).put o.dst u) a' w'->u=v->FA B N ops k f row d hp nx hpF (listed.setIfInBounds i true) (upd e o.dst v) a' w':=fun {a' w' u} hga hu=>by
       subst hu;obtain ⟨env',e2,e3⟩:=zAH env hpF nx o.dst u;rw [e2] at hga;refine ⟨dn',fun hl=>(by rw [keepF,hlf] at hl;cases hl),fun _=>⟨env',fun t=> ?_,hga⟩⟩;rw [e3];cases hd:o.dst with
       | none=>exact e1 t
       | some d' =>
         simp only [upd];have hne:d'≠d:=fun e=>hd2 (by rw [hd,e])
         by_cases e:d'=t
         ·subst e;rw [if_pos rfl,if_neg hne,if_pos rfl,AV.kill_free (hf2 (by rw [hd];simp))]
         ·rw [if_neg e,if_neg e];exact e1 t
      rcases hyc with ⟨hw,p,q',hc,hq'⟩|⟨hw,rfl⟩
      ·rw [if_pos (jR (hwant hw) rfl g1)]
       have hc':jM T o.op (y6 env) hpF=some (p,q',v):=by
        rw [qD hopnd,zDS (Pr:=fun i=> !Nat.beq i row) (fun x hx=>AV.free_okP (by
         cases x with
         | tmp t=>exact hf1 t (zCh hx)
         | const u=>exact zGS u
         | _=>rfl)) (hp:=hp) (fun id hid=>hsame id (fun e=>by subst e;simp [Nat.beq_refl] at hid)) hflat]
        exact hc
       exact (zBs R g1 hop hc').2 hq' fun a' w' hga=>nxt a' w' (step hga rfl)
      ·rw [if_neg (by rw [jR (hwant hw) rfl g1];simp)];exact ⟨fun f _=>trivial,nxt _ _ (step (zBG g1 hop) rfl)⟩
end
end Go.Vm
