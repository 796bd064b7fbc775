/- A part of the proofs of the laws. -/
import Derived.Test.YtlhoihabllompaaGreatVmFreezetoVmHeap
set_option linter.unusedSimpArgs false
set_option linter.unusedVariables false
set_option maxHeartbeats 8000000
set_option maxRecDepth 100000
/- A whole code, and a function. -/
namespace Go.Vm
open Go.RowKit
def zUW (o:Oper):Bool:=j0 o.op|| (((jC o.op).isSome|| (zAt o.op).isSome)&&o.guard.isNone)
def zNX:List Oper->Nat
 | []=>0
 | o::l=>match j0 o.op|| ((jC o.op).isSome&&o.guard.isNone) with|true=>zNX l+1|false=>0
def jZ:List Oper->List Tmp
 | []=>[]
 | o::l=>match jC o.op,o.dst with
   | some _,some d=>d::jZ l
   | _,_=>jZ l
def zSN (ops:Array Oper) (D:List Tmp):List Oper->Bool
 | []=>true
 | o::l=>(!(j0 o.op)|| (o.looksAt ops).all fun t=> !D.contains t)&&zSN ops D l
def zBp:List Oper->List Tmp
 | []=>[]
 | o::l=>match zAt o.op with
   | some (_,d,_)=>d::zBp l
   | none=>zBp l
def zEl (D:List Tmp):List Oper->Nat
 | []=>0
 | o ::l=>match j0 o.op with
   | true=>zEl D l+1
   | false=>match jC o.op,o.dst,zAt o.op,o.guard with
     | some _,some d,_,none=>zEl (d::D) l+1
     | none,_,some (_,d,_),none=>match zUt d D with|true=>zEl D l+1|false=>0
     | _,_,_,_=>0
def zJL:List (Tmp×TypeId)->List Oper->Bool
 | _,[]=>true
 | A,o::l=>(match zAt o.op with
     | some (t,d,_)=>A.any fun x=>Nat.beq x.1 d&&Nat.beq x.2 t
     | none=>true)&&zJL (match jC o.op,o.dst with|some t,some d=>(d,t)::A|_,_=>A) l
def zZx (D:List Tmp):List Oper->Bool
 | []=>true
 | o::l=>(match jC o.op,o.dst with|none,some d=> !zUt d D|_,_=>true)&&zZx D l
def zHu:List Oper->Bool
 | []=>true
 | o::l=>(match jC o.op with|some _=>o.dst.isSome|none=>true)&&zHu l
def zMJ (l:List Oper):Bool :=
 nodupB (jZ l)&&nodupB (zBp l)&&zJL [] l&&zZx (jZ l) l&&zHu l
def zSM (ops:Array Oper) (k:Nat):Bool :=
 Nat.ble k ops.size&&(ops.toList.take k).all zUW&&zMJ (ops.toList.take k) &&
 (zSN ops (jZ (ops.toList.take k)) (ops.toList.take k)&&zDr ops k k 0 (Array.replicate ops.size false) &&
   zCs ops (ops.size - k) k ((List.range k).foldl (fun l i=>l.setIfInBounds i true) (Array.replicate ops.size false)))
def zV4 (ops:Array Oper):Bool:=(zSM ops (zNX ops.toList)|| zSM ops (zEl [] ops.toList))|| zRV ops (zHr ops.toList)
def zFg (ops:Array Oper) (oF:Oper) (d:Tmp):List Oper->Bool
 | []=>true
 | o::l=>j0 o.op&&(!(o.looksAt ops).contains d&&(match o.dst with|some d'=> !Nat.beq d' d&& !(oF.looksAt ops).contains d'|none=>true))&&zFg ops oF d l
def zWy (ops:Array Oper) (f m:Nat):Bool:=match ops[f]? with
 | some oF=>match zDl oF with
   | some (_,_,d)=>Nat.ble (f+1+m) ops.size&&(ops.toList.take f).all (fun o=>j0 o.op)&&zFg ops oF d ((ops.toList.drop (f+1)).take m)&&zCT ops f [f] &&
      zDr ops (f+1+m) (f+1+m) 0 (Array.replicate ops.size false) &&
      zCs ops (ops.size - (f+1+m)) (f+1+m) ((List.range (f+1+m)).foldl (fun l i=>l.setIfInBounds i true) (Array.replicate ops.size false))
   | none=>false
 | none=>false
def zWK (ops:Array Oper) (f m m2:Nat):Bool:=match ops[f]?,ops[f+1+m]? with
 | some o1,some o2=>match zDl o1,zDl o2 with
   | some (_,_,d1),some (_,_,d2)=>Nat.ble (f+1+m+1+m2) ops.size&&(ops.toList.take f).all (fun o=>j0 o.op)&&zFg ops o1 d1 ((ops.toList.drop (f+1)).take m) &&
      zFg ops o1 d1 ((ops.toList.drop (f+1+m+1)).take m2)&&zFg ops o2 d2 ((ops.toList.drop (f+1+m+1)).take m2) &&
      (!Nat.beq d1 d2&& !(o1.looksAt ops).contains d2&& !(o2.looksAt ops).contains d1)&&zCT ops f [f]&&zCT ops (f+1+m) [f+1+m] &&
      zDr ops (f+1+m+1+m2) (f+1+m+1+m2) 0 (Array.replicate ops.size false) &&
      zCs ops (ops.size - (f+1+m+1+m2)) (f+1+m+1+m2) ((List.range (f+1+m+1+m2)).foldl (fun l i=>l.setIfInBounds i true) (Array.replicate ops.size false))
   | _,_=>false
 | _,_=>false
def zQK (o:Oper):Bool:=match o.op,o.guard,o.dst with
 | .store _ _ _,none,none=>true
 | _,_,_=>false
def zV3 (ops:Array Oper) (f m:Nat):Bool:=match ops[f]? with
 | some oF=>zQK oF&&Nat.ble (f+1+m) ops.size&&(ops.toList.take f).all (fun o=>j0 o.op)&&((ops.toList.drop (f+1)).take m).all (fun o=>j0 o.op) &&
    zDr ops (f+1+m) (f+1+m) 0 (Array.replicate ops.size false) &&
    zCs ops (ops.size - (f+1+m)) (f+1+m) ((List.range (f+1+m)).foldl (fun l i=>l.setIfInBounds i true) (Array.replicate ops.size false))
 | none=>false
def zLC (ops:Array Oper) (f:Nat) (d:Tmp):Nat->List Oper->Bool
 | _,[]=>true
 | i,o::l=>(zBQ ops f i|| (!(o.looksAt ops).contains d&&(match o.dst with|some d'=> !Nat.beq d' d|none=>true)))&&zLC ops f d (i+1) l
def zVo (ops:Array Oper) (f:Nat):Bool:=match ops[f]? with
 | some oF=>match zDl oF with
   | some (_,_,d)=>Nat.ble (f+1) ops.size&&(ops.toList.take f).all (fun o=>j0 o.op)&&zLC ops f d 0 (ops.toList.take f) &&
      zDr ops (f+1) (f+1) 0 (Array.replicate ops.size false) &&
      zCs ops (ops.size - (f+1)) (f+1) ((List.range (f+1)).foldl (fun l i=>l.setIfInBounds i true) (Array.replicate ops.size false))
   | none=>false
 | none=>false
def z4M (ops:Array Oper):Bool:=match zLc ops ops.toList 0 with
 | some (f,m)=>match zUf ops (f+1+m) with
   | some m2=>zWK ops f m m2
   | none=>zWy ops f m
 | none=>match z0n ops ops.toList 0 with
   | some f=>zVo ops f
   | none=>match storeAt ops ops.toList 0 with
     | some f=>zV3 ops f (z9K ops (f+1) (ops.toList.drop (f+1)))
     | none=>zV4 ops
def codeOk (N:Nat):Code->Bool
 | .region _ ops draw=>ops.toList.all (yT N)&&(!draw|| z4M ops)
 | .seq a b=>codeOk N a&&codeOk N b
 | .cond c a b=>zDy c&&codeOk N a&&codeOk N b
 | .block _ c=>codeOk N c
 | .loop c=>codeOk N c
 | .skip=>true
 | .label _=>true
 | .exit _=>true
 | .goto _=>true
 | .ret=>true
 | _=>false
section
variable {P:Program} {B:Base} {w:World} {σ:Sig} {β:yR} {st:St} {T:Tab} {N:Nat} {a:Act} {r:Option Nat} {n:Nat} {ops:Array Oper} {Q:Exit->Act->World->Prop}
theorem zD2 {o:Oper} {K:Act->World->Prop} (h:o.wpIn (FR r) n P a w K (fun _ _ _=>False)): ∃ a' w',K a' w':=by
 obtain ⟨_,h⟩:=h;generalize (o.semAt (FR r).round a.eval).run P w=res at h;cases res with
 | halt x w'=>cases x<;>simp only [Oper.uponIn] at h
 | ok nx w' =>
   cases nx<;>simp only [Oper.uponIn] at h
   case value v=>exact ⟨_,_,h⟩
   case skip=>exact ⟨_,_,h⟩
   case defer d=>exact ⟨_,_,h⟩
   case enter f args =>
    obtain ⟨e,w'',fr,hR,_⟩:=h.2.2 [] (fun d hd=>by cases hd);cases e with
    | returned v=>exact ⟨_,_,hR⟩
    | panicked c=>exact hR.elim
    | outgrown=>obtain ⟨_,_,hR⟩:=hR;exact hR.elim
   case row row args =>
    obtain ⟨v,w'',hR,_⟩:=h.2 default [] (fun d hd=>by cases hd);exact ⟨_,_,hR⟩
   case round l f tmps assign body =>
    obtain ⟨e,w'',hR,_⟩:=h.2.2 default [] (fun d hd=>by cases hd);cases e with
    | returned v=>exact ⟨_,_,hR⟩
    | panicked c=>exact hR.elim
    | outgrown=>obtain ⟨_,_,hR⟩:=hR;exact hR.elim
def zAx (ops:Array Oper) (k i:Nat) (t:TypeId):Prop:=i<k/\∃ o,ops[i]? =some o/\jC o.op=some t
def zEH (d:Tmp):List Oper->Nat->Option Nat
 | [],_=>none
 | o::l,n=>match zAt o.op with
   | some (_,d',_)=>if d'=d then some n else zEH d l (n+1)
   | none=>zEH d l (n+1)
def initOf (ops:Array Oper) (k j:Nat):Option Nat:=match ops[j]? with
 | some o=>match o.dst with
   | some d=>zEH d (ops.toList.take k) 0
   | none=>none
 | none=>none
def z0g (ops:Array Oper) (k:Nat) (gf:Nat->List AS) (was:Nat->Bool) (z:List AS) (j:Nat):List AS:=match initOf ops k j with
 | some i=>match was i with
   | true=>zAZ z 0 (gf i)
   | false=>z
 | none=>z
theorem zEZ {d:Tmp} : ∀ {l:List Oper} {n i:Nat},zEH d l n=some i->∃ m o t x,i=n+m/\l[m]? =some o/\zAt o.op=some (t,d,x)
 | [],_,_,h=>by cases h
 | o ::l,n,i,h=>by
   simp only [zEH] at h;split at h
   ·rename_i t d' x hi;split at h
    ·rename_i e;subst e;cases h;exact ⟨0,o,t,x,rfl,rfl,hi⟩
    ·obtain ⟨m,o',t',x',e1,e2,e3⟩:=zEZ h;exact ⟨m+1,o',t',x',by omega,by simpa using e2,e3⟩
   ·obtain ⟨m,o',t',x',e1,e2,e3⟩:=zEZ h;exact ⟨m+1,o',t',x',by omega,by simpa using e2,e3⟩
theorem zE7 {i:Nat} : ∀ {l:List Nat},zUt i l=true↔i∈l
 | []=>by simp [zUt]
 | k ::r=>by
   simp only [zUt]
   by_cases e:k=i
   ·subst e;simp [Nat.beq_refl]
   ·have:Nat.beq k i=false:=by
     cases h:Nat.beq k i with
     | false=>rfl
     | true=>exact (e (zH h)).elim
    rw [this];simp only [zE7 (l:=r),zT];exact ⟨.inr,fun h=>h.resolve_left (fun h=>e h.symm)⟩
theorem zFz {o:Oper} {t:TypeId} {d:Tmp} {x:Operand} (hi:zAt o.op=some (t,d,x)): ∀ {l:List Oper},o∈l->d∈zBp l
 | [],h=>by cases h
 | o'::l,h=>by
   simp only [zBp];rcases zT.1 h with rfl|h
   ·rw [hi];exact zY
   ·have:=zFz hi h;split
    ·exact zQ _ this
    ·exact this
theorem zFa {o:Oper} {t:TypeId} {d:Tmp} {x:Operand} (hi:zAt o.op=some (t,d,x)): ∀ {l:List Oper} {n m:Nat},nodupB (zBp l)=true->l[m]? =some o->zEH d l n=some (n+m)
 | [],_,_,_,h=>by simp at h
 | o'::l,n,0,_,h=>by
   simp at h;subst h;simp only [zEH,hi,if_true];rfl
 | o'::l,n,m+1,hn,h=>by
   have h':l[m]? =some o:=by simpa using h
   simp only [zEH];split
   ·rename_i t' d' x' hi';simp only [zBp,hi',nodupB,zC,Bool.not_eq_true'] at hn
    have hne:d'≠d:=by
     rintro rfl;have:=zE7.2 (zFz hi (List.mem_of_getElem? h'));rw [this] at hn;cases hn.1
    rw [if_neg hne,zFa hi hn.2 h'];congr 1;omega
   ·rename_i hi';simp only [zBp,hi'] at hn;rw [zFa hi hn h'];congr 1;omega
theorem zBX {o:Oper} {t:TypeId} {d:Tmp} (ha:jC o.op=some t) (hd:o.dst=some d): ∀ {l:List Oper},o∈l->d∈jZ l
 | [],h=>by cases h
 | o'::l,h=>by
   simp only [jZ];rcases zT.1 h with rfl|h
   ·rw [ha,hd];exact zY
   ·have:=zBX ha hd h;split
    ·exact zQ _ this
    ·exact this
theorem zFD {o o':Oper} {t t':TypeId} {d:Tmp} (ha:jC o.op=some t) (hd:o.dst=some d) (ha':jC o'.op=some t') (hd':o'.dst=some d) :
 ∀ {l:List Oper} {i j:Nat},nodupB (jZ l)=true->l[i]? =some o->l[j]? =some o'->i=j
 | [],_,_,_,h,_=>by simp at h
 | x::l,0,0,_,_,_=>rfl
 | x::l,0,j+1,hn,h,h'=>by
   simp at h;subst h;simp only [jZ,ha,hd,nodupB,zC,Bool.not_eq_true'] at hn;have:=zE7.2 (zBX ha' hd' (List.mem_of_getElem? (by simpa using h':l[j]? =some o')));rw [this] at hn;cases hn.1
 | x::l,i+1,0,hn,h,h'=>by
   simp at h';subst h';simp only [jZ,ha',hd',nodupB,zC,Bool.not_eq_true'] at hn;have:=zE7.2 (zBX ha hd (List.mem_of_getElem? (by simpa using h:l[i]? =some o)));rw [this] at hn;cases hn.1
 | x ::l,i+1,j+1,hn,h,h'=>by
   have hn':nodupB (jZ l)=true:=by
    simp only [jZ] at hn;split at hn
    ·simp only [nodupB,zC] at hn;exact hn.2
    ·exact hn
   have e:i=j:=zFD ha hd ha' hd' hn' (by simpa using h) (by simpa using h');rw [e]
structure z1W (ops:Array Oper) (k:Nat):Prop where
 initOf: ∀ (i j:Nat) (o oj:Oper) (t t':TypeId) (d:Tmp) (x:Operand),i<k->j<k->ops[i]? =some o->ops[j]? =some oj->zAt o.op=some (t,d,x)->jC oj.op=some t'->oj.dst=some d->initOf ops k j=some i
 inj: ∀ (i j:Nat) (o oj:Oper) (t t':TypeId) (d:Tmp),i<k->j<k->ops[i]? =some o->ops[j]? =some oj->jC o.op=some t->jC oj.op=some t'->o.dst=some d->oj.dst=some d->i=j
 has: ∀ (i:Nat) (o:Oper) (t:TypeId) (d:Tmp) (x:Operand),i<k->ops[i]? =some o->zAt o.op=some (t,d,x)->∃ (j:Nat) (oj:Oper),j<i/\ops[j]? =some oj/\jC oj.op=some t/\oj.dst=some d
 dst: ∀ (i:Nat) (o:Oper) (d:Tmp) (j:Nat) (oj:Oper) (t:TypeId),i<k->j<k->ops[i]? =some o->ops[j]? =some oj->jC o.op=none->jC oj.op=some t->oj.dst=some d->o.dst≠some d
 slot: ∀ (i:Nat) (o:Oper) (t:TypeId),i<k->ops[i]? =some o->jC o.op=some t->∃ d,o.dst=some d
theorem zHV: ∀ {l:List Oper} {A:List (Tmp×TypeId)},zJL A l=true->∀ (i:Nat) (o:Oper) (t:TypeId) (d:Tmp) (x:Operand),l[i]? =some o->zAt o.op=some (t,d,x)->(d,t)∈A\/∃ (j:Nat) (oj:Oper),j<i/\l[j]? =some oj/\jC oj.op=some t/\oj.dst=some d
 | [],_,_,i,o,t,d,x,h,_=>by simp at h
 | y::l,A,hc,0,o,t,d,x,h,hi=>by
   simp at h;subst h;simp only [zJL,hi,zC,List.any_eq_true] at hc;obtain ⟨⟨⟨d',t'⟩,h1,h2,h3⟩,_⟩:=hc;have:=zH h2;have:=zH h3;simp only at *
   subst_vars
   exact .inl h1
 | y ::l,A,hc,i+1,o,t,d,x,h,hi=>by
   simp only [zJL,zC] at hc;rcases zHV hc.2 i o t d x (by simpa using h) hi with h1|⟨j,oj,h1,h2,h3,h4⟩
   ·split at h1
    ·rename_i t' d' ha hd;rcases zT.1 h1 with e|e
     ·cases e;exact .inr ⟨0,y,by omega,rfl,ha,hd⟩
     ·exact .inl e
    ·exact .inl h1
   ·exact .inr ⟨j+1,oj,by omega,by simpa using h2,h3,h4⟩
theorem zGx {D:List Tmp} : ∀ {l:List Oper},zZx D l=true->∀ o∈l,jC o.op=none->∀ d,o.dst=some d->d∉D
 | [],_,_,h,_,_,_=>by cases h
 | y ::l,hc,o,h,ha,d,hd=>by
   simp only [zZx,zC] at hc;rcases zT.1 h with rfl|h
   ·have:=hc.1;rw [ha,hd] at this;simp only [Bool.not_eq_true'] at this;intro hm;rw [zE7.2 hm] at this;cases this
   ·exact zGx hc.2 o h ha d hd
theorem zFq: ∀ {l:List Oper},zHu l=true->∀ o∈l,∀ t:TypeId,jC o.op=some t->∃ d,o.dst=some d
 | [],_,_,h,_,_=>by cases h
 | y::l,hc,o,h,t,ha=>by
   simp only [zHu,zC] at hc;rcases zT.1 h with rfl|h
   ·have:=hc.1;rw [ha] at this;exact Option.isSome_iff_exists.1 this
   ·exact zFq hc.2 o h t ha
theorem z0h {k:Nat} (h:zMJ (ops.toList.take k)=true):z1W ops k:=by
 simp only [zMJ,zC] at h;obtain ⟨⟨⟨⟨h1,h2⟩,h3⟩,h4⟩,h5⟩:=h
 have get: ∀ {i:Nat} {o:Oper},i<k->ops[i]? =some o->(ops.toList.take k)[i]? =some o:=fun {i o} hi ho=>by
  rw [List.getElem?_take,if_pos hi];simpa using ho
 have back: ∀ {i:Nat} {o:Oper},(ops.toList.take k)[i]? =some o->i<k/\ops[i]? =some o:=fun {i o} ho=>by
  rw [List.getElem?_take] at ho;split at ho
  ·rename_i hi;exact ⟨hi,by simpa using ho⟩
  ·cases ho
 refine ⟨fun i j o oj t t' d x hi hj ho hoj hin ha hd=> ?_,fun i j o oj t t' d hi hj ho hoj ha ha' hd hd'=> ?_,fun i o t d x hi ho hin=> ?_,fun i o d j oj t hi hj ho hoj hn ha hd=> ?_,fun i o t hi ho ha=> ?_⟩
 ·simp only [Vm.initOf,hoj,hd];have:=zFa (n:=0) hin h2 (get hi ho);rw [zD] at this;exact this
 ·exact zFD ha hd ha' hd' h1 (get hi ho) (get hj hoj)
 ·rcases zHV h3 i o t d x (get hi ho) hin with e|⟨j,oj,q1,q2,q3,q4⟩
  ·cases e
  ·exact ⟨j,oj,q1,(back q2).2,q3,q4⟩
 ·intro e;exact zGx h4 o (List.mem_of_getElem? (get hi ho)) hn d e (zBX ha hd (List.mem_of_getElem? (get hj hoj)))
 ·exact zFq h5 o (List.mem_of_getElem? (get hi ho)) t ha
theorem zAM {k i j:Nat} (h:initOf ops k j=some i):i<k/\∃ o oj t d x,ops[i]? =some o/\ops[j]? =some oj/\zAt o.op=some (t,d,x)/\oj.dst=some d:=by
 unfold initOf at h;split at h
 ·rename_i oj hoj;split at h
  ·rename_i d hd;obtain ⟨m,o,t,x,e1,e2,e3⟩:=zEZ h;rw [zD] at e1;subst e1;rw [List.getElem?_take] at e2;split at e2
   ·rename_i hm;exact ⟨hm,o,oj,t,d,x,by simpa using e2,hoj,e3,hd⟩
   ·cases e2
  ·cases h
 ·cases h
theorem zIP {op:Op} {t:TypeId} {d:Tmp} {x:Operand} (h:zAt op=some (t,d,x)):op= .store t (.tmp d) x:=by
 revert h
 cases op<;>simp only [zAt]<;>first|(intro h;cases h;done)|skip
 rename_i t' y z;cases y<;>simp only [zAt]<;>intro h<;>cases h;rfl
theorem zHG {op:Op} {r:TypeId×Tmp×Operand} (h:zAt op=some r):jC op=none:=by
 obtain ⟨t,d,x⟩:=r;rw [zIP h];rfl
theorem zBc {k:Nat} {gf gf':Nat->List AS} {was was':Nat->Bool} {z:List AS} {j:Nat} (h: ∀ i,initOf ops k j=some i->was i=was' i/\(was i=true->gf i=gf' i)):z0g ops k gf was z j=z0g ops k gf' was' z j:=by
 unfold z0g;split
 ·rename_i i hi;obtain ⟨h1,h2⟩:=h i hi;rw [<- h1];split
  ·rename_i hw;rw [h2 hw]
  ·rfl
 ·rfl
theorem zEh {k:Nat} {gf:Nat->List AS} {was:Nat->Bool} {z:List AS} {j:Nat} (h: ∀ i,initOf ops k j=some i->was i=false):z0g ops k gf was z j=z:=by
 unfold z0g;split
 ·rename_i i hi;rw [h i hi]
 ·rfl
theorem zNU {k:Nat} {gf:Nat->List AS} {was:Nat->Bool} {z:List AS} {i j:Nat} (h:initOf ops k j=some i) (hw:was i=true):z0g ops k gf was z j=zAZ z 0 (gf i):=by
 unfold z0g;rw [h];simp only [hw]
theorem zPQ {T:Tab} {t u:TypeId} {id:Nat} {v:AV} {st:St} {d:Option Tmp} {m cs:List AS} (hv:v.flat=some m) (h1:(Nat.beq m.length (T.sizeOf t)&& !Nat.beq (T.sizeOf t) 0)=true) (h2:m.all AS.storable=true)
 (hh:hget st.hp id=some (.flat u cs)) (h3:Nat.ble (0+m.length) cs.length=true) :
 zBz T t (.s (.ptr id 0 0)) v st d=some (none,none,({st with hp:=zA6 st.hp id (.flat u (zAZ cs 0 m))} :St).put d .undef):=by
 simp only [zBz,hv,h1,h2,hh,h3]
theorem zIM {T:Tab} {t u:TypeId} {id:Nat} {v:AV} {st:St} {d:Option Tmp} {cs:List AS} {r} (h:zBz T t (.s (.ptr id 0 0)) v st d=some r) (hh:hget st.hp id=some (.flat u cs)) :
 ∃ m,v.flat=some m/\(Nat.beq m.length (T.sizeOf t)&& !Nat.beq (T.sizeOf t) 0)=true/\m.all AS.storable=true/\Nat.ble (0+m.length) cs.length=true/\r=(none,none,({st with hp:=zA6 st.hp id (.flat u (zAZ cs 0 m))} :St).put d .undef):=by
 unfold zBz at h;cases hv:v.flat with
 | none=>simp only [hv] at h;cases h
 | some m =>
   simp only [hv,hh] at h;cases h1:(Nat.beq m.length (T.sizeOf t)&& !Nat.beq (T.sizeOf t) 0) with
   | false=>simp only [h1] at h;cases h
   | true =>
     cases h2:m.all AS.storable with
     | false=>simp only [h1,h2] at h;cases h
     | true =>
       simp only [h1,h2] at h;cases h3:Nat.ble (0+m.length) cs.length with
       | false=>simp only [h3] at h;cases h
       | true=>simp only [h3] at h;exact ⟨m,rfl,h1,h2,h3,(Option.some.inj h).symm⟩
structure RF (B:Base) (N:Nat) (T:Tab) (ops:Array Oper) (k:Nat) (hp:jJ) (nx:Nat) (gf:Nat->List AS) (listed:Array Bool) (e:Fr) (a:Act) (w:World) (env:Env) (hp':jJ) (β:yR):Prop where
 look:yZ env=e
 gb:GB B N β ⟨env,hp',nx+zBO ops.toList k⟩ a w
 ext:z7j nx hp hp'
 done: ∀ i t,zAx ops k i t->listed.getD i true=true->∃ ti,T.info t=some ti/\hget hp' (nx+zBO ops.toList i)=some (.flat t (z0g ops k gf (fun x=>listed.getD x true) ti.zero i))
 wait: ∀ i t,zAx ops k i t->listed.getD i true=false->hget hp' (nx+zBO ops.toList i)=none/\β[nx+zBO ops.toList i]? =some dead
 only: ∀ id ob,hget hp' id=some ob->id<nx\/∃ i t,zAx ops k i t/\id=nx+zBO ops.toList i
 first: ∀ i j t,initOf ops k j=some i->zAx ops k j t->listed.getD i true=true->listed.getD j true=true
theorem zPz {o:Oper} {t:TypeId} (h2:jC o.op=some t): ∀ (l:List Oper) (i j:Nat),l[i]? =some o->i<j->zBO l i<zBO l j:=by
 intro l
 induction l with
 | nil=>intro i j h;simp at h
 | cons x l ih =>
   intro i j h h3;obtain ⟨j',rfl⟩: ∃ j',j=j'+1:=⟨j - 1,by omega⟩;cases i with
   | zero=>simp at h;subst h;simp only [zBO,h2];omega
   | succ i =>
     simp only [zBO];have:=ih i j' (by simpa using h) (by omega);omega
theorem zEd {k i j:Nat} {t u:TypeId} (hi:zAx ops k i t) (hj:zAx ops k j u) (h:zBO ops.toList i=zBO ops.toList j):i=j:=by
 obtain ⟨_,o,ho,ha⟩:=hi;obtain ⟨_,o',ho',ha'⟩:=hj;rcases Nat.lt_trichotomy i j with hlt|heq|hgt
 ·have:=zPz ha ops.toList i j (by simpa using ho) hlt;omega
 ·exact heq
 ·have:=zPz ha' ops.toList j i (by simpa using ho') hgt;omega
theorem zAK (env:Env) (hp:jJ) (nx:Nat) (d:Option Tmp) (v:AV): ∃ env',(⟨env,hp,nx⟩:St).put d v=⟨env',hp,nx⟩/\yZ env'=upd (yZ env) d v:=by
 cases d with
 | none=>exact ⟨env,rfl,rfl⟩
 | some t=>exact ⟨(t,v)::env,rfl,by funext x;rw [qR];rfl⟩
theorem zGA {t:Array Value} {j:Nat} {d:Tmp} {vs:Array Value} (hd:qT ops j=some d) (hv:t.getD d undef= .tuple vs):yielded ops t j=none:=by
 unfold qT at hd;unfold yielded;split at hd
 ·rename_i o' ho';simp only [ho',Option.bind_some,hd];cases e:t[d]? with
  | none=>rfl
  | some v =>
    simp only [zL,e,Option.getD_some] at hv;subst hv;rfl
 ·cases hd
theorem jT {e:Fr} {o:Oper} {b:Bool} (hw:qD ops e o=some b) {env:Env} (he:yZ env=e) {hp:jJ} {nx:Nat} (h:GA B N ⟨env,hp,nx⟩ a w):Region.wanted o (yielded ops a.tmps)=b:=by
 unfold qD at hw;unfold Region.wanted;split at hw
 ·rename_i hg;cases hw;simp [hg]
 ·rename_i j want hg;simp only [hg];obtain ⟨σ,β,hgg⟩:=h.gg;split at hw
  ·rename_i d hd;have hv:=hgg.env d;rw [he] at hv;split at hw
   ·rename_i b' hb';rw [hb'] at hv;cases hw;rw [zEu hd (show a.tmps.getD d undef= .bool b' from hv)];cases b'<;>cases want<;>rfl
   ·rename_i vs hb';rw [hb'] at hv;cases hw;rw [zGA hd hv.1];rfl
   ·cases hw
  ·cases hw
theorem zZ2 (R:jM P T) {env:Env} {hp':jJ} {m:Nat} (h:GB B N β ⟨env,hp',m⟩ a w) {o:Oper} (ho:yT N o=true) {t:TypeId} (hop:o.op= .alloc t) {ti:TI} (hti:T.info t=some ti) {id:Nat} (hdd:β[id]? =some dead) {K:Act->World->Prop}
 (hK: ∀ (a':Act) (w':World) (p:Option Bk),GB B N (β.set id p) ((⟨env,(id,.flat t ti.zero)::hp',m⟩:St).put o.dst (.s (.ptr id 0 0))) a' w'->K a' w'):o.wpIn (FR r) n P a w K Q:=by
 obtain ⟨σ,hg⟩:=h.gg;obtain ⟨i,z,hi,hs,hb,hz,hzl⟩:=(R.ty _ _ hti).get
 have hx:(execOp a.eval o).run P w= .ok (.value (.pointer (some ⟨w.heap.size,0,none⟩))) (w.alloc (.cells z.cells t)):=by
  simp [execOp,hop,Instr.alloc,zeroValue,typeInfo,hi,hz,newVar,newRow]
 refine ⟨fun f _=>trivial,?_⟩;rw [Oper.semAt_eq _ _ _ (by intro c e;rw [hop] at e;cases e),hx];exact hK _ _ _ (zCf h.defers h.size ⟨σ,hg.revive hdd (zAb h.size ho) (by rw [hzl];exact zEe (R.ty _ _ hti).zok)⟩)
theorem jA {l:Array Bool} {i:Nat} :(l.setIfInBounds i true).getD i true=true:=by
 rcases Nat.lt_or_ge i l.size with h'|h'
 ·simp [zL,h']
 ·simp [zL,Array.getElem?_eq_none (show (l.setIfInBounds i true).size<=i by simpa using h')]
theorem zG6 {op:Op} {t:TypeId} (h:jC op=some t):op= .alloc t:=by
 cases op<;>simp only [jC] at h<;>first|contradiction|(cases h;rfl)
theorem zIR (R:jM P T) (hall: ∀ (i:Nat) (o:Oper),ops[i]? =some o->yT N o=true) {hp:jJ} {nx k fuel:Nat} {gf:Nat->List AS} {ef:Fr} (hF:z1W ops k) (lk:Array Bool)
 (htail: ∀ (a:Act) (w:World) (listed:Array Bool) (env:Env) (hp':jJ) (β:yR),(∀ i<k,listed.getD i true=true)->(∀ i,listed.getD i true=lk.getD i true)->listed.size=lk.size->RF B N T ops k hp nx gf listed ef a w env hp' β->wpAnyIn (FR r) n P .any ops Q fuel listed a w) :
 ∀ (m:Nat) (listed:Array Bool) (e:Fr) (a:Act) (w:World) (env:Env) (hp':jJ) (β:yR),zDa (Yields T ops hp nx gf) ops k ef m listed e->(∀ i,k<=i->listed.getD i true=lk.getD i true)->(∀ i<k,lk.getD i true=true)->listed.size=lk.size->RF B N T ops k hp nx gf listed e a w env hp' β->
   wpAnyIn (FR r) n P .any ops Q (m+fuel) listed a w
 | 0,listed,e,a,w,env,hp',β,h,hl1,hl2,hs,hr=>by
   obtain ⟨h1,rfl⟩:=h;rw [zD];refine htail a w listed env hp' β h1 (fun i=> ?_) hs hr
   by_cases hi:i<k
   ·rw [h1 i hi,hl2 i hi]
   ·exact hl1 i (by omega)
 | m + 1,listed,e,a,w,env,hp',β,h,hl1,hl2,hs,hr=>by
   rw [show m+1+fuel=(m+fuel)+1 by omega];refine ⟨fun h0=>(h.1 h0).elim,fun i hi=> ?_⟩;obtain ⟨hik,o,v,ho,hy,hk⟩:=h.2 i hi;have hun:=(mem_ready.1 hi).1;have hop:=hall i o ho
   have nxt: ∀ (a':Act) (w':World) (env':Env) (hp2:jJ) (β':yR),RF B N T ops k hp nx gf (listed.setIfInBounds i true) (upd e o.dst v) a' w' env' hp2 β'->wpAnyIn (FR r) n P .any ops Q (m+fuel) (listed.setIfInBounds i true) a' w':=fun a' w' env' hp2 β' hr' =>
    zIR R hall hF lk htail m _ _ a' w' env' hp2 β' hk (fun j hj=>by rw [getD_set_ne true (by omega)];exact hl1 j hj) hl2 (by simpa using hs) hr'
   unfold wpOpIn;simp only [ho];unfold Yields at hy;split at hy
   ·rename_i hna;split at hy
    ·-- a calm one
     rename_i hni
     have keep: ∀ {j:Nat} {t:TypeId},zAx ops k j t->(listed.setIfInBounds i true).getD j true=listed.getD j true:=fun {j t} hj=>by
      refine getD_set_ne true (fun e=> ?_);obtain ⟨_,o',ho',ha'⟩:=hj;rw [<- e,ho] at ho';cases ho';rw [hna] at ha';cases ha'
     have keepI: ∀ {i' j:Nat},initOf ops k j=some i'->(listed.setIfInBounds i true).getD i' true=listed.getD i' true:=fun {i' j} hj=>by
      refine getD_set_ne true (fun e=> ?_);obtain ⟨_,o',_,_,_,_,ho',_,hin,_⟩:=zAM hj;rw [<- e,ho] at ho';cases ho';rw [hni] at hin;cases hin
     have step: ∀ {u:AV} {a':Act} {w':World},GB B N β ((⟨env,hp',nx+zBO ops.toList k⟩:St).put o.dst u) a' w'->∃ env',RF B N T ops k hp nx gf (listed.setIfInBounds i true) (upd e o.dst u) a' w' env' hp' β:=fun {u a' w'} hgb=>by
      obtain ⟨env',e1,e2⟩:=zAK env hp' (nx+zBO ops.toList k) o.dst u;rw [e1] at hgb
      exact ⟨env',by rw [e2,hr.look],hgb,hr.ext,fun j t hj hl=>by
       obtain ⟨ti,q1,q2⟩:=hr.done j t hj (by rw [<- keep hj];exact hl);refine ⟨ti,q1,?_⟩;rw [q2,zBc (gf':=gf) (was':=fun x=>(listed.setIfInBounds i true).getD x true) fun i' hi'=>⟨(keepI hi').symm,fun _=>rfl⟩],fun j t hj hl=>hr.wait j t hj (by rw [<- keep hj];exact hl),hr.only,
       fun i' j t hi' hj hl=>by rw [keep hj];exact hr.first i' j t hi' hj (by rw [<- keepI hi'];exact hl)⟩
     rcases hy with ⟨hw,p,q,hc,hq⟩|⟨hw,rfl⟩
     ·rw [if_pos (jT hw hr.look hr.gb.ga)];have hc:=hc hp' hr.ext;rw [<- hr.look,y4] at hc;refine (zLS R hr.gb hop hc).2 hq fun a' w' hga'=> ?_;obtain ⟨env',h'⟩:=step hga';exact nxt a' w' _ _ _ h'
     ·rw [if_neg (by rw [jT hw hr.look hr.gb.ga];simp)];refine ⟨fun f _=>trivial,?_⟩
      have:GB B N β ((⟨env,hp',nx+zBO ops.toList k⟩:St).put o.dst .undef) (a.put o.dst undef) w:=by
       obtain ⟨σ,hg⟩:=hr.gb.gg;exact zCf hr.gb.defers hr.gb.size ⟨σ,hg.put (zAb hr.gb.size hop) y6.undef⟩
      obtain ⟨env',h'⟩:=step this;exact nxt _ _ _ _ _ h'
    ·-- a store into a thing that was allocated there
     rename_i t d x hin;obtain ⟨hg,rfl,j,oj,ti,hji,hoj,haj,hdj,hed,hti,hfl,c1,c2,c3⟩:=hy;have hjk:j<k:=by omega
     have hat:zAx ops k j t:=⟨hjk,oj,hoj,haj⟩;have hop':=zIP hin;have hof:initOf ops k j=some i:=hF.initOf i j o oj t t d x hik hjk ho hoj hin haj hdj
     have hjl:listed.getD j true=true:=by
      cases hl:listed.getD j true with
      | true=>rfl
      | false =>
        obtain ⟨_,hdd⟩:=hr.wait j t hat hl;obtain ⟨σ,hgg⟩:=hr.gb.gg;have hv:=hgg.env d;have hed':yZ env d= .s (.ptr (nx+zBO ops.toList j) 0 0):=by rw [hr.look];exact hed
        rw [show yZ (⟨env,hp',nx+zBO ops.toList k⟩:St).env d=_ from hed'] at hv;obtain ⟨p,e1,_,e2⟩:=hv;rw [hdd] at e1;cases e1;exact absurd e2 (by simp [dead])
     obtain ⟨ti',q1,q2⟩:=hr.done j t hat hjl;rw [hti] at q1;cases q1;rw [zEh fun i' hi'=>by rw [hof] at hi';cases hi';exact hun] at q2;rw [if_pos (by simp [Region.wanted,hg])]
     have hest:zBz T t (y7 env (.tmp d)) (y7 env x) ⟨env,hp',nx+zBO ops.toList k⟩ o.dst=some (none,none,(⟨env,zA6 hp' (nx+zBO ops.toList j) (.flat t (zAZ ti.zero 0 (gf i))),nx+zBO ops.toList k⟩:St).put o.dst .undef):=by
      rw [<- y4,hr.look,hed];exact zPQ hfl c1 c2 q2 c3
     refine zTl R hr.gb hop hop' hest fun a' w' hgb=> ?_;obtain ⟨env',e1,e2⟩:=zAK env (zA6 hp' (nx+zBO ops.toList j) (.flat t (zAZ ti.zero 0 (gf i)))) (nx+zBO ops.toList k) o.dst .undef;rw [e1] at hgb;have hset_get: ∀ id,hget (zA6 hp' (nx+zBO ops.toList j) (.flat t (zAZ ti.zero 0 (gf i)))) id=if id=nx+zBO ops.toList j then some (.flat t (zAZ ti.zero 0 (gf i))) else hget hp' id:=fun id=>zAR ⟨_,q2⟩
     have keep: ∀ {j':Nat} {t':TypeId},zAx ops k j' t'->(listed.setIfInBounds i true).getD j' true=listed.getD j' true:=fun {j' t'} hj=>by
      refine getD_set_ne true (fun e=> ?_);obtain ⟨_,o',ho',ha'⟩:=hj;rw [<- e,ho] at ho';cases ho';rw [hna] at ha';cases ha'
     refine nxt a' w' env' _ _ ⟨by rw [e2,hr.look],hgb,fun id hid=> ?_,fun j' u hj' hl=> ?_,fun j' u hj' hl=> ?_,fun id ob hi'=> ?_,fun i' j' u hi' hj' hl=> ?_⟩
     ·rw [hset_get,if_neg (by omega)];exact hr.ext id hid
     ·by_cases hjj:j'=j
      ·subst hjj;obtain ⟨_,o',ho',ha'⟩:=hj';rw [hoj] at ho';cases ho';rw [haj] at ha';cases ha';refine ⟨ti,hti,?_⟩;rw [hset_get,if_pos rfl,zNU hof jA]
      ·obtain ⟨ti',q3,q4⟩:=hr.done j' u hj' (by rw [<- keep hj'];exact hl);refine ⟨ti',q3,?_⟩;rw [hset_get,if_neg (fun e=>hjj (zEd hj' hat (by omega))),q4];rw [zBc (gf':=gf) (was':=fun x=>(listed.setIfInBounds i true).getD x true) fun i' hi'=>⟨(getD_set_ne true (fun e=> ?_)).symm,fun _=>rfl⟩];subst e;obtain ⟨_,o',oj',t',d',x',r1,r2,r3,r4⟩:=zAM hi';obtain ⟨hjk',o2,ho2,ha2⟩:=hj';rw [ho] at r1;cases r1;rw [hin] at r3;cases r3
       rw [ho2] at r2;cases r2;exact hjj (hF.inj j' j _ _ _ _ _ hjk' hjk ho2 hoj ha2 haj r4 hdj)
     ·rw [keep hj'] at hl;obtain ⟨q3,q4⟩:=hr.wait j' u hj' hl;refine ⟨?_,q4⟩;rw [hset_get];split
      ·rename_i e;have:=zEd hj' hat (by omega);subst this;rw [hjl] at hl;cases hl
      ·exact q3
     ·rw [hset_get] at hi';split at hi'
      ·rename_i e;exact .inr ⟨j,t,hat,e⟩
      ·exact hr.only id ob hi'
     ·rw [keep hj']
      by_cases hii:i'=i
      ·subst hii;obtain ⟨_,o',oj',t',d',x',r1,r2,r3,r4⟩:=zAM hi';obtain ⟨hjk',o2,ho2,ha2⟩:=hj';rw [ho] at r1;cases r1;rw [hin] at r3;cases r3;rw [ho2] at r2;cases r2;rw [hF.inj j' j _ _ _ _ _ hjk' hjk ho2 hoj ha2 haj r4 hdj];exact hjl
      ·rw [getD_set_ne true (Ne.symm hii)] at hl;exact hr.first i' j' u hi' hj' hl
   ·-- an allocation
    rename_i t ha;obtain ⟨hg,hti,rfl⟩:=hy;obtain ⟨ti,hti⟩:=Option.isSome_iff_exists.1 hti;have hat:zAx ops k i t:=⟨hik,o,ho,ha⟩;obtain ⟨_,hdd⟩:=hr.wait i t hat hun
    have keepI: ∀ {i' j:Nat},initOf ops k j=some i'->(listed.setIfInBounds i true).getD i' true=listed.getD i' true:=fun {i' j} hj=>by
     refine getD_set_ne true (fun e=> ?_);obtain ⟨_,o',_,_,_,_,ho',_,hin,_⟩:=zAM hj;rw [<- e,ho] at ho';cases ho';rw [zHG hin] at ha;cases ha
    rw [if_pos (by simp [Region.wanted,hg])];refine zZ2 R hr.gb hop (zG6 ha) hti hdd fun a' w' p hgb=> ?_;obtain ⟨env',e1,e2⟩:=zAK env ((nx+zBO ops.toList i,.flat t ti.zero)::hp') (nx+zBO ops.toList k) o.dst (.s (.ptr (nx+zBO ops.toList i) 0 0));rw [e1] at hgb;refine nxt a' w' env' _ _ ⟨by rw [e2,hr.look],hgb,fun id hid=> ?_,fun j u hj hl=> ?_,fun j u hj hl=> ?_,fun id ob hi'=> ?_,fun i' j u hi' hj hl=> ?_⟩
    ·rw [yL,if_neg (by omega)];exact hr.ext id hid
    ·rw [yL]
     by_cases hji:i=j
     ·subst hji;obtain ⟨_,o',ho',ha'⟩:=hj;rw [ho] at ho';cases ho';rw [ha] at ha';cases ha';refine ⟨ti,hti,?_⟩;rw [if_pos rfl,zEh fun i' hi'=> ?_];rw [keepI hi'];cases hl':listed.getD i' true with
      | false=>rfl
      | true=>rw [hr.first i' i _ hi' hat hl'] at hun;cases hun
     ·rw [getD_set_ne true hji] at hl;rw [if_neg (fun e=>hji (zEd hat hj (by omega)))];obtain ⟨ti',q1,q2⟩:=hr.done j u hj hl;refine ⟨ti',q1,?_⟩;rw [q2,zBc (gf':=gf) (was':=fun x=>(listed.setIfInBounds i true).getD x true) fun i' hi'=>⟨(keepI hi').symm,fun _=>rfl⟩]
    ·by_cases hji:i=j
     ·subst hji;rw [jA] at hl;cases hl
     ·rw [getD_set_ne true hji] at hl;have hne:nx+zBO ops.toList i≠nx+zBO ops.toList j:=fun e=>hji (zEd hat hj (by omega));obtain ⟨q1,q2⟩:=hr.wait j u hj hl;exact ⟨by rw [yL,if_neg hne];exact q1,by rw [List.getElem?_set_ne hne];exact q2⟩
    ·rw [yL] at hi';split at hi'
     ·rename_i e;exact .inr ⟨i,t,hat,e.symm⟩
     ·exact hr.only id ob hi'
    ·rw [keepI hi'] at hl;have:=hr.first i' j u hi' hj hl
     by_cases hji:i=j
     ·subst hji;exact jA
     ·rw [getD_set_ne true hji];exact this
theorem zC6 (R:jM P T) (hall: ∀ (i:Nat) (o:Oper),ops[i]? =some o->yT N o=true): ∀ (l:List Oper) (t:Nat) (listed:Array Bool) {st:St} {a:Act} {w:World} {K:St->Prop},(∀ j:Nat,l[j]? =ops[t+j]?)->
 zCs ops l.length t listed=true->GA B N st a w->zAN T true ops l st K->(∀ st' a' w',K st'->GA B N st' a' w'->Q .normal a' w')->wpAnyIn (FR r) n P .any ops Q l.length listed a w
 | [],t,listed,st,a,w,K,_,hB,h,hk,hQ=>⟨by simpa [zCs] using hB,hQ _ _ _ hk h⟩
 | o :: l, t,listed,st,a,w,K,hl,hB,h,hk,hQ=>by
   have h0:ops[t]? =some o:=by simpa using (hl 0).symm
   have ho:=hall t o h0;have hl': ∀ j:Nat,l[j]? =ops[t+1+j]? :=fun j=>by have:=hl (j+1);simpa [Nat.add_assoc,Nat.add_comm 1 j] using this
   simp only [yA,zCs,zC,beq_iff_eq] at hB;obtain ⟨hr,hB'⟩:=hB;refine ⟨fun h=>(by rw [h] at hr;cases hr),fun i hi=> ?_⟩;rw [hr] at hi;obtain rfl:=zF.1 hi
   have run: ∀ {st:St},GA B N st a w->aop T true o st (fun st'=>zAN T true ops l st' K)->o.wpIn (FR r) n P a w (wpAnyIn (FR r) n P .any ops Q l.length (listed.setIfInBounds i true)) Q:=fun h hk =>
    z1z R h ho hk fun st' a' w' hk' h'=>zC6 R hall l (i+1) _ hl' hB' h' hk' hQ
   have skip: ∀ {st:St},GA B N st a w->zAN T true ops l (st.put o.dst .undef) K->wpAnyIn (FR r) n P .any ops Q l.length (listed.setIfInBounds i true) (a.put o.dst undef) w:=fun h hk =>
    zC6 R hall l (i+1) _ hl' hB' (zBG h ho) hk hQ
   unfold wpOpIn;simp only [h0];simp only [zAN,St.force_eq] at hk;cases hg:o.guard with
   | none =>
     simp only [hg] at hk;rw [if_pos (by simp [Region.wanted,hg])];exact run h hk
   | some jw =>
     obtain ⟨j,want⟩:=jw;simp only [hg] at hk;obtain ⟨σ,β,hgg⟩:=h.gg;split at hk
     ·rename_i b hb;obtain ⟨d,hd,hd2⟩:=j8 (ops:=ops) (env:=st.env) (j:=j) (by rw [hb];simp);rw [hd2] at hb;have hv:=hgg.env d;rw [hb] at hv;have hy:=zEu (ops:=ops) hd (show a.tmps.getD d undef= .bool b from hv);rw [hd] at hk;cases b with
      | true =>
        cases want with
        | true =>
          rw [if_pos (by simp [Region.wanted,hg,hy])];exact run (zBv h hb) hk
        | false =>
          rw [if_neg (by simp [Region.wanted,hg,hy])];exact ⟨fun f _=>trivial,skip (zBv h hb) hk⟩
      | false =>
        cases want with
        | true =>
          rw [if_neg (by simp [Region.wanted,hg,hy])];exact ⟨fun f _=>trivial,skip (zBv h hb) hk⟩
        | false =>
          rw [if_pos (by simp [Region.wanted,hg,hy])];exact run (zBv h hb) hk
     ·rename_i vs hb;obtain ⟨d,hd,hd2⟩:=j8 (ops:=ops) (env:=st.env) (j:=j) (by rw [hb];simp);rw [hd2] at hb;have hv:=hgg.env d;rw [hb] at hv;rw [if_neg (by simp [Region.wanted,hg,zGA hd hv.1])];exact ⟨fun f _=>trivial,skip h hk⟩
     ·exact hk.elim
theorem zH1 {t:TypeId} {m:Nat} {ps:List (Nat×AV)} {d:Option Tmp} (h:zC3 T t m ps=none):zCY T t m ps st d=none:=by
 unfold zC3 at h;unfold zCY;split at h
 ·split at h
  ·split at h
   ·split at h
    ·cases h
    ·rfl
   ·rfl
  ·rfl
 ·rfl
theorem zFo {o:Oper} (hc:j0 o.op=true) (h:jY T o st=none):zJg T o st=none:=by
 unfold jY at h;split at h
 ·cases h
 ·rename_i hn;unfold zJg;split
  ·rfl
  rename_i hv;unfold zCG;obtain ⟨dst,op,type,pos,after,guard⟩:=o;cases op<;>simp only [j0] at hc<;>first|contradiction|rfl|skip
  case buildSlice t m ps=>exact zH1 hn
  case call c =>
   obtain ⟨callee,args,ts⟩:=c;cases callee with
   | builtin b=>cases b<;>first|contradiction|rfl
   | value v=>cases hv
   | _=>rfl
end
end Go.Vm
/- A drawn region in whose midst a row grows: the calm operations behind the append, which do not wait for it, may come ahead of it or behind it. -/
namespace Go.Vm
open Go.RowKit
theorem zDK (ops:Array Oper) (o:Oper):slotsOf ops o=o.looksAt ops:=by
 unfold slotsOf Oper.looksAt
 congr 1
 cases o.guard with
 | none=>rfl
 | some jw =>
   obtain ⟨j,w⟩:=jw;simp only;cases ops[j]? with
   | none=>rfl
   | some o' =>
     simp only [Option.bind_some];cases o'.dst<;>rfl
theorem z5S {i r:Nat} (h:(!Nat.beq i r)=true):Nat.beq i r=false:=by simpa using h
theorem AS.kill_free {r:Nat} {a:AS} (h:a.free r=true):kill r a=a:=by
 cases a<;>simp only [kill]<;>simp only [AS.free] at h<;>(try rw [z5S h])
theorem zHv {r:Nat} : ∀ {l:List AS},l.all (AS.free r)=true->l.map (kill r)=l
 | [],_=>rfl
 | a::l,h=>by
   simp only [List.all_cons,zC] at h;rw [List.map_cons,AS.kill_free h.1,zHv h.2]
theorem AV.kill_free {r:Nat} {v:AV} (h:v.free r=true):v.mapAS (kill r)=v:=by
 cases v with
 | s a=>simp only [AV.mapAS];rw [AS.kill_free h]
 | agg l=>simp only [AV.mapAS];rw [zHv h]
 | tup l =>
   simp only [AV.mapAS]
   congr 1
   simp only [AV.free] at h
   induction l with
   | nil=>rfl
   | cons v l ih =>
     simp only [List.all_cons,zC] at h;rw [List.map_cons,ih h.2]
     congr 1
     cases v with
     | s a=>simp only [AV.map1];rw [AS.kill_free h.1]
     | agg l=>simp only [AV.map1];rw [zHv h.1]
     | tup l=>cases h.1
theorem zRE {r:Nat} : ∀ {l:Env},(l.all fun x=>x.2.free r)=true->Env.mapAS (kill r) l=l
 | [],_=>rfl
 | (t,v)::l,h=>by
   simp only [List.all_cons,zC] at h;simp only [Env.mapAS];rw [AV.kill_free h.1,zRE h.2]
theorem Ob.kill_free {r:Nat} {o:Ob} (h:o.free r=true):o.mapAS (kill r)=o:=by
 cases o with
 | flat u cs=>simp only [Ob.mapAS];rw [zHv h]
 | fr X l=>simp only [Ob.mapAS];rw [zRE h]
 | _=>rfl
theorem zEQ {r:Nat} : ∀ {hp:jJ},zD8 r hp=true->∀ id,id≠r->hget (hp.mapAS (kill r)) id=hget hp id
 | [],_,_,_=>rfl
 | (k,o)::l,h,id,hne=>by
   simp only [zD8,zC,Bool.or_eq_true] at h;simp only [jJ.mapAS,yL];split
   ·rename_i e;rcases h.1 with hb|hf
    ·exact absurd (e.symm.trans (zH hb)) hne
    ·rw [Ob.kill_free hf]
   ·exact zEQ h.2 id hne
theorem zD5 {r:Nat} : ∀ {hp:jJ},zD8 r hp=true->∀ id t cs,id≠r->hget hp id=some (.flat t cs)->cs.all (AS.free r)=true
 | [],_,_,_,_,_,h=>by cases h
 | (k,o)::l,h,id,t,cs,hne,hi=>by
   simp only [zD8,zC,Bool.or_eq_true] at h;simp only [yL] at hi;split at hi
   ·rename_i e;cases hi;rcases h.1 with hb|hf
    ·exact absurd (e.symm.trans (zH hb)) hne
    ·exact hf
   ·exact zD5 h.2 id t cs hne hi
theorem AS.free_okP {r:Nat} {a:AS} (h:a.free r=true):a.okP (fun i=> !Nat.beq i r)=true:=by cases a<;>exact h
theorem AV.free_okP {r:Nat} {v:AV} (h:v.free r=true):v.okP (fun i=> !Nat.beq i r):=by
 cases v with
 | s a=>exact AS.free_okP h
 | agg l=>exact zJ.2 fun a ha=>AS.free_okP (zJ.1 h a ha)
 | tup l=>trivial
theorem zKD {r:Nat} (u:Value):(AS.ofVal u).free r=true:=by
 unfold AS.ofVal;split<;>rfl
theorem zGt {r:Nat} (u:Value):(AV.ofVal u).free r=true:=by
 unfold AV.ofVal;split
 ·simp only [AV.free,List.all_map,zJ];intro a _;exact zKD a
 ·exact zKD u
theorem zB8 {o:Oper} {x y:Operand} {d:Tmp} (h:zDl o=some (x,y,d)):o.guard=none/\o.dst=some d/\∃ ts,o.op= .call ⟨.builtin .append,#[x,y],ts⟩:=by
 unfold zDl at h;split at h
 ·rename_i c d' hop hg hd;split at h
  ·rename_i x' y' hc ha;cases h;obtain ⟨callee,args,ts⟩:=c;simp only at hc ha;subst hc;have:args= #[x,y]:=by rw [<- Array.toArray_toList (xs:=args),ha]
   subst this;exact ⟨hg,hd,ts,hop⟩
  ·cases h
 ·cases h
theorem zFV {T:Tab} {ts:List TypeId} {xv yv:AV} {env:Env} {hp:jJ} {nx:Nat} {d:Option Tmp} {res} (h:zB9 T ts xv yv ⟨env,hp,nx⟩ d=some res) :
 ∃ r s n n' row q,xv= .s (.own r s n)/\(∃ ob,hget hp r=some ob)/\res=(none,q,(⟨env.mapAS (kill r),zA6 (hp.mapAS (kill r)) r row,nx⟩:St).put d (.s (.own r 0 n')))/\∀ env',zB9 T ts xv yv ⟨env',hp,nx⟩ d=some (none,q,(⟨env'.mapAS (kill r),zA6 (hp.mapAS (kill r)) r row,nx⟩:St).put d (.s (.own r 0 n'))):=by
 unfold zB9 at h ⊢;dsimp only at h ⊢;split at h
 case h_2=>cases h
 rename_i t t' id s n e' ys hys;split at h
 case h_2=>cases h
 rename_i u' e u xs hb hd hid;split at h
 case h_2=>cases h
 rename_i he ui hdec hbu hui;split at h
 case h_2=>cases h
 rename_i c1 c2 c3;refine ⟨id,s,n,n+ys.length,.row e u ((xs.drop s).take n++(he▸ys)),some (((n:Int)+ys.length)*ui.bytes<=140737488355328),rfl,⟨_,hid⟩,(Option.some.inj h).symm,fun env'=> ?_⟩;simp only [hys,hb,hd,hid,hdec,hbu,hui,c1,c2,c3]
section
variable {P:Program} {B:Base} {w:World} {σ:Sig} {β:yR} {st:St} {T:Tab} {N:Nat} {a:Act} {r:Option Nat} {n:Nat} {ops:Array Oper} {Q:Exit->Act->World->Prop}
def YA (T:Tab) (ops:Array Oper) (hp:jJ) (f row:Nat) (x y:Operand) (xv yv vF:AV) (i:Nat) (o:Oper) (v:AV) (e:Fr):Prop :=
 (i=f/\v=vF/\(x∈o.op.operands/\y∈o.op.operands)/\jK e x=xv/\jK e y=yv)\/
 (i≠f/\((qD ops e o=some true/\∃ p q,jO T o.op (jK e) hp=some (p,q,v)/\Opt q)\/(qD ops e o=some false/\v= .undef))/\(f<i->(∀ t∈o.looksAt ops,(e t).free row=true)/\(o.dst≠none->v.free row=true)))
theorem zAj {o:Oper} {e:Fr} {d:Option Tmp} {u:AV} (h: ∀ t,d=some t->t∉o.looksAt ops):qD ops (upd e d u) o=qD ops e o:=by
 unfold qD;cases hg:o.guard with
 | none=>rfl
 | some jw =>
   obtain ⟨j,want⟩:=jw;simp only;cases hs:qT ops j with
   | none=>rfl
   | some s =>
     simp only
     have:upd e d u s=e s:=by
      cases d with
      | none=>rfl
      | some t =>
        have hne:t≠s:=by
         rintro rfl;refine h t rfl ?_;simp only [Oper.looksAt,hg,yD];right;unfold qT at hs;cases ho:ops[j]? with
         | none=>simp [ho] at hs
         | some o'=>simp only [ho] at hs;simp [hs]
        simp [upd,hne]
     rw [this]
theorem zCb {o:Oper} {t:Tmp} (h:Operand.tmp t∈o.op.operands):t∈o.looksAt ops:=by
 simp only [Oper.looksAt,yD,List.mem_filterMap];exact .inl ⟨.tmp t,by simpa using h,rfl⟩
theorem yW {o:Oper} {e:Fr} {d:Option Tmp} {u:AV} (h: ∀ t,d=some t->t∉o.looksAt ops): ∀ x∈o.op.operands,jK (upd e d u) x=jK e x:=fun x hx=>zJ8 fun t ht hxt=>h t ht (by subst hxt;exact zCb hx)
theorem upd_same {e:Fr} {d:Option Tmp} {u:AV} {t:Tmp} (h: ∀ t',d=some t'->t'≠t):upd e d u t=e t:=by
 cases d with
 | none=>rfl
 | some t'=>simp only [upd];rw [if_neg (h t' rfl)]
theorem zZ7 {hp:jJ} {f row:Nat} {x y:Operand} {xv yv vF:AV} :zOy (YA T ops hp f row x y xv yv vF) ops:=by
 intro i o v u e d h;unfold YA;rw [zAj h,qF (yW h)];have: ∀ t∈o.looksAt ops,upd e d u t=e t:=fun t ht=>upd_same fun t' hd e=>h t' hd (e▸ht);constructor
 ·rintro (⟨h1,h2,h3,h4⟩|⟨h1,h2,h3⟩)
  ·rw [yW h x h3.1,yW h y h3.2] at h4;exact .inl ⟨h1,h2,h3,h4⟩
  ·exact .inr ⟨h1,h2,fun hlt=>⟨fun t ht=>by rw [<- this t ht];exact (h3 hlt).1 t ht,(h3 hlt).2⟩⟩
 ·rintro (⟨h1,h2,h3,h4⟩|⟨h1,h2,h3⟩)
  ·rw [<- yW h x h3.1,<- yW h y h3.2] at h4;exact .inl ⟨h1,h2,h3,h4⟩
  ·exact .inr ⟨h1,h2,fun hlt=>⟨fun t ht=>by rw [this t ht];exact (h3 hlt).1 t ht,(h3 hlt).2⟩⟩
theorem zN2 {draw:Bool} {o:Oper} {l:List Oper} {st:St} {K:St->Prop} (h:zAN T draw ops (o::l) st K):zAN T draw ops [o] st (fun s=>zAN T draw ops l s K):=by
 simp only [zAN] at h ⊢;exact h
theorem zCE (R:jM P T) {o:Oper} (hc:j0 o.op=true) (ho:yT N o=true) {env:Env} {hp:jJ} {nx:Nat} (h:GA B N ⟨env,hp,nx⟩ a w) {K:St->Prop} (hk:zAN T true ops [o] ⟨env,hp,nx⟩ K) :
 ∃ v env' a' w',yZ env'=upd (yZ env) o.dst v/\K ⟨env',hp,nx⟩/\GA B N ⟨env',hp,nx⟩ a' w'/\
   ((qD ops (yZ env) o=some true/\∃ p q,jO T o.op (jK (yZ env)) hp=some (p,q,v)/\Opt q)\/(qD ops (yZ env) o=some false/\v= .undef)):=by
 have run: ∀ {env1:Env},yZ env1=yZ env->qD ops (yZ env) o=some true->aop T true o ⟨env1,hp,nx⟩ K->
  ∃ v env' a' w',yZ env'=upd (yZ env) o.dst v/\K ⟨env',hp,nx⟩/\GA B N ⟨env',hp,nx⟩ a' w'/\
  ((qD ops (yZ env) o=some true/\∃ p q,jO T o.op (jK (yZ env)) hp=some (p,q,v)/\Opt q)\/(qD ops (yZ env) o=some false/\v= .undef)):=by
  intro env1 hE hw hk;have hEv:y7 env1=jK (yZ env):=by rw [<- y4,hE]
  have h1:GA B N ⟨env1,hp,nx⟩ a w:=by
   obtain ⟨σ,β,hg⟩:=h.gg;exact ⟨h.defers,h.size,σ,β,hg.congr hE.symm fun _=>rfl⟩
  have core: ∀ {p q:Option Prop} {st':St},zBr T true o ⟨env1,hp,nx⟩=some (p,q,st')->Opt p/\(Opt q->K st'->
   ∃ v env' a' w',yZ env'=upd (yZ env) o.dst v/\K ⟨env',hp,nx⟩/\GA B N ⟨env',hp,nx⟩ a' w'/\
   ((qD ops (yZ env) o=some true/\∃ p q,jO T o.op (jK (yZ env)) hp=some (p,q,v)/\Opt q)\/(qD ops (yZ env) o=some false/\v= .undef))):=by
   intro p q st' hs;unfold zBr at hs;simp only at hs;split at hs
   ·rename_i res hcs;cases Option.some.inj hs;unfold jY at hcs;split at hcs
    ·rename_i p' q' v hv;cases hcs;obtain ⟨g1,g2⟩:=zBw (r:=none) (n:=0) R h1 ho hv;refine ⟨g1,fun hq hk'=> ?_⟩;obtain ⟨a',w',hga'⟩:=zD2 (g2 hq (K:=fun a' w'=>GA B N ((⟨env1,hp,nx⟩:St).put o.dst v) a' w') (Q:=fun _ _ _=>False) fun _ _ h=>h);obtain ⟨env',e1,e2⟩:=zAK env1 hp nx o.dst v;rw [e1] at hk' hga';refine ⟨v,env',a',w',by rw [e2,hE],hk',hga',.inl ⟨hw,p,q,?_,hq⟩⟩;rw [<- hEv];exact hv
    ·cases hcs
   ·rename_i hcs;rw [zFo hc hcs] at hs;cases hs
  simp only [aop] at hk;unfold zSI at hk;simp only [St.force_eq] at hk;split at hk
  ·rename_i st' hs;exact (core hs).2 trivial hk
  ·rename_i p st' hs;obtain ⟨h1,h2⟩:=core hs;exact h2 trivial (hk.out h1)
  ·rename_i q st' hs;obtain ⟨h1,h2⟩:=core hs;obtain ⟨k1,k2⟩:=hk.out;exact h2 k1 k2
  ·rename_i p q st' hs;obtain ⟨h1,h2⟩:=core hs;obtain ⟨k1,k2⟩:=(hk.out h1).out;exact h2 k1 k2
  ·exact hk.elim
 have skip: ∀ {env1:Env},yZ env1=yZ env->qD ops (yZ env) o=some false->K ((⟨env1,hp,nx⟩:St).put o.dst .undef)->
  ∃ v env' a' w',yZ env'=upd (yZ env) o.dst v/\K ⟨env',hp,nx⟩/\GA B N ⟨env',hp,nx⟩ a' w'/\
  ((qD ops (yZ env) o=some true/\∃ p q,jO T o.op (jK (yZ env)) hp=some (p,q,v)/\Opt q)\/(qD ops (yZ env) o=some false/\v= .undef)):=by
  intro env1 hE hw hk
  have h1:GA B N ⟨env1,hp,nx⟩ a w:=by
   obtain ⟨σ,β,hg⟩:=h.gg;exact ⟨h.defers,h.size,σ,β,hg.congr hE.symm fun _=>rfl⟩
  obtain ⟨env',e1,e2⟩:=zAK env1 hp nx o.dst .undef;have hga:=zBG h1 ho;rw [e1] at hk hga;exact ⟨.undef,env',_,w,by rw [e2,hE],hk,hga,.inr ⟨hw,rfl⟩⟩
 simp only [zAN,St.force_eq] at hk;cases hg:o.guard with
 | none =>
   simp only [hg] at hk;exact run rfl (by simp [qD,hg]) hk
 | some jw =>
   obtain ⟨j,want⟩:=jw;simp only [hg] at hk;split at hk
   ·rename_i b hb;obtain ⟨d,hd,hd2⟩:=j8 (ops:=ops) (env:=env) (j:=j) (by rw [hb];simp);rw [hd2] at hb;rw [hd] at hk;have hw:qD ops (yZ env) o=some (b==want):=by simp [qD,hg,hd,hb]
    have hE: ∀ b',yZ env d= .s (.bool b')->yZ ((d,.s (.bool b'))::env)=yZ env:=fun b' hb'=>by
     funext x;rw [qR];split
     ·rename_i e;subst e;exact hb'.symm
     ·rfl
    cases b with
    | true =>
      cases want with
      | true=>exact run (hE _ hb) hw hk
      | false=>exact skip (hE _ hb) hw hk
    | false =>
      cases want with
      | true=>exact skip (hE _ hb) hw hk
      | false=>exact run (hE _ hb) hw hk
   ·rename_i vs hb;obtain ⟨d,hd,hd2⟩:=j8 (ops:=ops) (env:=env) (j:=j) (by rw [hb];simp);rw [hd2] at hb;exact skip rfl (by simp [qD,hg,hd,hb]) hk
   ·exact hk.elim
theorem zAr {Y:Nat->Oper->AV->Fr->Prop} {em ef:Fr} : ∀ {l1 l2:List Oper} {i:Nat} {e:Fr},zAl Y em i l1 e->zAl Y ef (i+l1.length) l2 em->zAl Y ef i (l1++l2) e
 | [],l2,i,e,h1,h2=>by
   obtain rfl:e=em:=h1;simpa using h2
 | o::l1,l2,i,e,⟨v,h1,h3⟩,h2=>⟨v,h1,zAr h3 (by rw [show i+1+l1.length=i+(o::l1).length by simp;omega];exact h2)⟩
theorem zFh (R:jM P T) {hp:jJ} {nx f:Nat} : ∀ (l:List Oper) (i:Nat) {env:Env} {a:Act} {w:World} {K:St->Prop},i+l.length<=f->(∀ o∈l,j0 o.op=true/\yT N o=true)->
 GA B N ⟨env,hp,nx⟩ a w->zAN T true ops l ⟨env,hp,nx⟩ K->∃ env' a' w',K ⟨env',hp,nx⟩/\GA B N ⟨env',hp,nx⟩ a' w'/\∀ row x y xv yv vF,zAl (YA T ops hp f row x y xv yv vF) (yZ env') i l (yZ env)
 | [],i,env,a,w,K,_,_,h,hk=>⟨env,a,w,hk,h,fun _ _ _ _ _ _=>rfl⟩
 | o::l,i,env,a,w,K,hi,hl,h,hk=>by
   simp only [yA] at hi;obtain ⟨hc,ho⟩:=hl o (by simp);obtain ⟨v,env1,a1,w1,e1,k1,g1,y1⟩:=zCE R hc ho h (zN2 hk);obtain ⟨env',a',w',k2,g2,y2⟩:=zFh R (f:=f) l (i+1) (by omega) (fun o' h'=>hl o' (by simp [h'])) g1 k1;exact ⟨env',a',w',k2,g2,fun row x y xv yv vF=>⟨v,.inr ⟨by omega,y1,fun hlt=>absurd hlt (by omega)⟩,by rw [<- e1];exact y2 row x y xv yv vF⟩⟩
theorem zKB (R:jM P T) {hp:jJ} {nx f row:Nat} {oF:Oper} {d:Tmp} {x y:Operand} (hx:x∈oF.op.operands) (hy:y∈oF.op.operands) :
 ∀ (l:List Oper) (i:Nat) {env:Env} {a:Act} {w:World} {K:St->Prop},f<i->(∀ j:Nat,j<l.length->l[j]? =ops[i+j]?)->zFg ops oF d l=true->(∀ o∈l,yT N o=true)->
 GA B N ⟨env,hp,nx⟩ a w->zZw T row ops l ⟨env,hp,nx⟩ K->∃ env' a' w',K ⟨env',hp,nx⟩/\GA B N ⟨env',hp,nx⟩ a' w'/\(jK (yZ env') x=jK (yZ env) x/\jK (yZ env') y=jK (yZ env) y)/\
  ∀ xv yv vF,zAl (YA T ops hp f row x y xv yv vF) (upd (yZ env') (some d) vF) i l (upd (yZ env) (some d) vF)
 | [],i,env,a,w,K,_,_,_,_,h,hk=>⟨env,a,w,hk,h,⟨rfl,rfl⟩,fun _ _ _=>rfl⟩
 | o ::l,i,env,a,w,K,hi,hop,hw,hl,h,hk=>by
   simp only [zFg,zC,Bool.not_eq_true'] at hw;obtain ⟨⟨hc,hlk,hdst⟩,hw'⟩:=hw;simp only [zZw] at hk;split at hk
   case h_2=>exact hk.elim
   rename_i hfo;obtain ⟨v,env1,a1,w1,e1,k1,g1,y1⟩:=zCE R hc (hl o (by simp)) h hk;split at k1
   case h_2=>exact k1.elim
   rename_i hfd
   obtain ⟨env',a',w',k2,g2,⟨ex,ey⟩,y2⟩:=zKB R (f:=f) hx hy l (i+1) (by omega) (fun j hj=>by
    have:=hop (j+1) (by simp;omega);simpa [Nat.add_assoc,Nat.add_comm 1 j] using this) hw' (fun o' h'=>hl o' (by simp [h'])) g1 k1
   have h0:ops[i]? =some o:=by simpa using (hop 0 (by simp)).symm
   have hdl: ∀ t,some d=some t->t∉o.looksAt ops:=fun t e hm=>by
    cases e;have:(o.looksAt ops).contains d=true:=by simpa using hm
    rw [hlk] at this;cases this
   have hdd: ∀ t,some d=some t->o.dst≠some t:=fun t e hd=>by
    cases e;rw [hd] at hdst;simp only [zC,Bool.not_eq_true'] at hdst;rw [Nat.beq_refl] at hdst;cases hdst.1
   have hdF: ∀ t,o.dst=some t->t∉oF.looksAt ops:=fun t hd hm=>by
    rw [hd] at hdst;simp only [zC,Bool.not_eq_true'] at hdst;have:(oF.looksAt ops).contains t=true:=by simpa using hm
    rw [this] at hdst;cases hdst.2
   refine ⟨env',a',w',k2,g2,⟨?_,?_⟩,fun xv yv vF=>⟨v,.inr ⟨by omega,?_,fun _=>⟨fun t ht=> ?_,fun hne=> ?_⟩⟩,?_⟩⟩
   ·rw [ex,e1];exact yW hdF x hx
   ·rw [ey,e1];exact yW hdF y hy
   ·rw [zAj hdl,qF (yW hdl)];exact y1
   ·rw [upd_same fun t' e=>by cases e;rintro rfl;exact hdl _ rfl ht];simp only [zBt,zJ,zDK] at hfo;exact hfo t ht
   ·cases hd:o.dst with
    | none=>exact absurd hd hne
    | some t =>
      simp only [zCl,hd] at hfd;have:yZ env1 t=v:=by rw [e1,hd];simp [upd]
      rw [this] at hfd;exact hfd
   ·rw [zGF hdd,<- e1];exact y2 xv yv vF
structure FA (B:Base) (N:Nat) (ops:Array Oper) (k f row:Nat) (d:Tmp) (hp:jJ) (nx:Nat) (hpF:jJ) (listed:Array Bool) (e:Fr) (a:Act) (w:World):Prop where
 dn: ∀ j i,j<k->listed.getD j true=true->waits ops j i=true->listed.getD i true=true
 pre:listed.getD f true=false->∃ env,yZ env=e/\GA B N ⟨env,hp,nx⟩ a w
 post:listed.getD f true=true->∃ env,(∀ t,yZ env t=if t=d then e t else (e t).mapAS (kill row))/\GA B N ⟨env,hpF,nx⟩ a w
theorem zDO {k:Nat} {listed:Array Bool} (dn: ∀ j i,j<k->listed.getD j true=true->waits ops j i=true->listed.getD i true=true): ∀ (i:Nat) (acc:List Nat),zCT ops i acc=true->(∀ j∈acc,j<k/\listed.getD j true=true)->i<=k->∀ i'<i,listed.getD i' true=true
 | 0,_,_,_,_,i',h=>absurd h (by omega)
 | i + 1,acc,hn,ha,hik,i',hi'=>by
   simp only [zCT] at hn;split at hn
   case h_2=>cases hn
   rename_i hany;obtain ⟨j,hj,hw⟩:=List.any_eq_true.1 hany;have hi:listed.getD i true=true:=dn j i (ha j hj).1 (ha j hj).2 hw
   by_cases e:i'=i
   ·subst e;exact hi
   ·exact zDO dn i (i::acc) hn (fun j hj=>by
     rcases zT.1 hj with rfl|hj
     ·exact ⟨by omega,hi⟩
     ·exact ha j hj) (by omega) i' (by omega)
theorem zCS {l:Array Bool} {i:Nat} (h:l.getD i false=true):l.getD i true=true:=by
 rcases Nat.lt_or_ge i l.size with h'|h'
 ·simpa [zL,h'] using h
 ·simp [zL,Array.getElem?_eq_none h'] at h
theorem zJ2 {i j:Nat} {listed:Array Bool} (h:i∈Region.ready .any ops listed) (hw:waits ops i j=true):listed.getD j true=true:=by
 obtain ⟨_,o,ho,hall⟩:=mem_ready.1 h;unfold waits at hw;rw [ho] at hw;obtain ⟨x,hx,hb⟩:=Array.any_eq_true'.1 hw;simp only [zC,beq_iff_eq] at hb;have:=hall x hx hb.1;rw [hb.2] at this;exact zCS this
theorem zNx (R:jM P T) (hall: ∀ (i:Nat) (o:Oper),ops[i]? =some o->yT N o=true) {hp hpF:jJ} {nx k f row fuel:Nat} {d:Tmp} {oF:Oper} {x y:Operand} {xv yv vF:AV} {ef:Fr} {q:Option Prop} (lk:Array Bool)
 (hfk:f<k) (hoF:ops[f]? =some oF) (hgF:oF.guard=none) (hdF:oF.dst=some d) (hq:Opt q)
 (hF: ∀ env,y7 env x=xv->y7 env y=yv->zCG T oF ⟨env,hp,nx⟩=some (none,q,(⟨env.mapAS (kill row),hpF,nx⟩:St).put (some d) vF)) (hneed:zCT ops f [f]=true)
 (hsame: ∀ id,id≠row->hget hpF id=hget hp id) (hflat:zGW (fun i=> !Nat.beq i row) hp)
 (hwin: ∀ i o,f<i->i<k->ops[i]? =some o->d∉o.looksAt ops/\o.dst≠some d)
 (htail: ∀ (a:Act) (w:World) (listed:Array Bool) (env:Env),(∀ i<k,listed.getD i true=true)->(∀ i,listed.getD i true=lk.getD i true)->listed.size=lk.size->(∀ t,yZ env t=if t=d then ef t else (ef t).mapAS (kill row))->GA B N ⟨env,hpF,nx⟩ a w->wpAnyIn (FR r) n P .any ops Q fuel listed a w) :
 ∀ (m:Nat) (listed:Array Bool) (e:Fr) (a:Act) (w:World),zDa (YA T ops hp f row x y xv yv vF) ops k ef m listed e->(∀ i,k<=i->listed.getD i true=lk.getD i true)->(∀ i<k,lk.getD i true=true)->listed.size=lk.size->FA B N ops k f row d hp nx hpF listed e a w->
   wpAnyIn (FR r) n P .any ops Q (m+fuel) listed a w
 | 0,listed,e,a,w,h,hl1,hl2,hs,hr=>by
   obtain ⟨h1,rfl⟩:=h;rw [zD];obtain ⟨env,e1,g1⟩:=hr.post (h1 f hfk);refine htail a w listed env h1 (fun i=> ?_) hs e1 g1
   by_cases hi:i<k
   ·rw [h1 i hi,hl2 i hi]
   ·exact hl1 i (by omega)
 | m + 1,listed,e,a,w,h,hl1,hl2,hs,hr=>by
   rw [show m+1+fuel=(m+fuel)+1 by omega];refine ⟨fun h0=>(h.1 h0).elim,fun i hi=> ?_⟩;obtain ⟨hik,o,v,ho,hy,hk⟩:=h.2 i hi;have hun:=(mem_ready.1 hi).1;have hop:=hall i o ho
   have nxt: ∀ (a':Act) (w':World),FA B N ops k f row d hp nx hpF (listed.setIfInBounds i true) (upd e o.dst v) a' w'->wpAnyIn (FR r) n P .any ops Q (m+fuel) (listed.setIfInBounds i true) a' w':=fun a' w' hr' =>
    zNx R hall lk hfk hoF hgF hdF hq hF hneed hsame hflat hwin htail m _ _ a' w' hk (fun j hj=>by rw [getD_set_ne true (by omega)];exact hl1 j hj) hl2 (by simpa using hs) hr'
   have dn': ∀ j i',j<k->(listed.setIfInBounds i true).getD j true=true->waits ops j i'=true->(listed.setIfInBounds i true).getD i' true=true:=fun j i' hj hl hw=>by
    have hres:listed.getD i' true=true:=by
     by_cases e:i=j
     ·subst e;exact zJ2 hi hw
     ·rw [getD_set_ne true e] at hl;exact hr.dn j i' hj hl hw
    by_cases e:i=i'
    ·subst e;exact jA
    ·rw [getD_set_ne true e];exact hres
   unfold wpOpIn;simp only [ho];rcases hy with ⟨rfl,rfl,_,hxv,hyv⟩|⟨hif,hyc,hfree⟩
   ·-- the append
    rw [hoF] at ho;cases ho;obtain ⟨env,e1,g1⟩:=hr.pre hun;rw [if_pos (by simp [Region.wanted,hgF])];have he:=hF env (by rw [<- y4,e1];exact hxv) (by rw [<- y4,e1];exact hyv);refine (zHD R g1 hop he).2 hq fun a' w' hga=>nxt a' w' ⟨dn',fun hl=> ?_,fun _=>⟨_,fun t=> ?_,hga⟩⟩
    ·rw [jA] at hl;cases hl
    ·show yZ ((d,v)::env.mapAS (kill row)) t=_;rw [qR,hdF]
     by_cases e:t=d
     ·subst e;simp [upd]
     ·rw [if_neg (Ne.symm e),if_neg e,j7 _ rfl,e1];simp only [upd];rw [if_neg (Ne.symm e)]
   ·have keepF:(listed.setIfInBounds i true).getD f true=listed.getD f true:=getD_set_ne true hif;cases hlf:listed.getD f true with
    | false =>
      obtain ⟨env,e1,g1⟩:=hr.pre hlf
      have step: ∀ {a':Act} {w':World} {u:AV},GA B N ((⟨env,hp,nx⟩:St).put o.dst u) a' w'->u=v->FA B N ops k f row d hp nx hpF (listed.setIfInBounds i true) (upd e o.dst v) a' w':=fun {a' w' u} hga hu=>by
       subst hu;obtain ⟨env',e2,e3⟩:=zAK env hp nx o.dst u;rw [e2] at hga;exact ⟨dn',fun _=>⟨env',by rw [e3,e1],hga⟩,fun hl=>by rw [keepF,hlf] at hl;cases hl⟩
      rcases hyc with ⟨hw,p,q',hc,hq'⟩|⟨hw,rfl⟩
      ·rw [if_pos (jT hw e1 g1)];rw [<- e1,y4] at hc;exact (zBw R g1 hop hc).2 hq' fun a' w' hga=>nxt a' w' (step hga rfl)
      ·rw [if_neg (by rw [jT hw e1 g1];simp)];exact ⟨fun f _=>trivial,nxt _ _ (step (zBG g1 hop) rfl)⟩
    | true =>
      obtain ⟨env,e1,g1⟩:=hr.post hlf
      have hfi:f<i:=by
       rcases Nat.lt_trichotomy i f with hlt|heq|hgt
       ·have:=zDO hr.dn f [f] hneed (fun j hj=>by
         obtain rfl:=zF.1 hj;exact ⟨hfk,hlf⟩) (by omega) i hlt
        rw [this] at hun;cases hun
       ·exact absurd heq hif
       ·exact hgt
      obtain ⟨hf1,hf2⟩:=hfree hfi;obtain ⟨hd1,hd2⟩:=hwin i o hfi hik ho
      have hlook: ∀ t∈o.looksAt ops,yZ env t=e t:=fun t ht=>by
       rw [e1,if_neg (by rintro rfl;exact hd1 ht),AV.kill_free (hf1 t ht)]
      have hopnd: ∀ x∈o.op.operands,y7 env x=jK e x:=fun x hx=>by
       cases x with
       | tmp t=>exact hlook t (zCb hx)
       | _=>rfl
      have hwant: ∀ {b},qD ops e o=some b->qD ops (yZ env) o=some b:=fun {b} hw=>by
       rw [<- hw];unfold qD;cases hg:o.guard with
       | none=>rfl
       | some jw =>
         obtain ⟨j,want⟩:=jw;simp only;cases hs:qT ops j with
         | none=>rfl
         | some s =>
           simp only
           rw [hlook s (by
            simp only [Oper.looksAt,hg,yD];right;unfold qT at hs;cases ho:ops[j]? with
            | none=>simp [ho] at hs
            | some o'=>simp only [ho] at hs;simp [hs])]
      have step: ∀ {a':Act} {w':World} {u:AV},GA B N ((⟨env,hpF,nx⟩:St).put o.dst u) a' w'->u=v->FA B N ops k f row d hp nx hpF (listed.setIfInBounds i true) (upd e o.dst v) a' w':=fun {a' w' u} hga hu=>by
       subst hu;obtain ⟨env',e2,e3⟩:=zAK env hpF nx o.dst u;rw [e2] at hga;refine ⟨dn',fun hl=>(by rw [keepF,hlf] at hl;cases hl),fun _=>⟨env',fun t=> ?_,hga⟩⟩;rw [e3];cases hd:o.dst with
       | none=>exact e1 t
       | some d' =>
         simp only [upd];have hne:d'≠d:=fun e=>hd2 (by rw [hd,e])
         by_cases e:d'=t
         ·subst e;rw [if_pos rfl,if_neg hne,if_pos rfl,AV.kill_free (hf2 (by rw [hd];simp))]
         ·rw [if_neg e,if_neg e];exact e1 t
      rcases hyc with ⟨hw,p,q',hc,hq'⟩|⟨hw,rfl⟩
      ·rw [if_pos (jT (hwant hw) rfl g1)]
       have hc':jO T o.op (y7 env) hpF=some (p,q',v):=by
        rw [qF hopnd,zDR (Pr:=fun i=> !Nat.beq i row) (fun x hx=>AV.free_okP (by
         cases x with
         | tmp t=>exact hf1 t (zCb hx)
         | const u=>exact zGt u
         | _=>rfl)) (hp:=hp) (fun id hid=>hsame id (fun e=>by subst e;simp [Nat.beq_refl] at hid)) hflat]
        exact hc
       exact (zBw R g1 hop hc').2 hq' fun a' w' hga=>nxt a' w' (step hga rfl)
      ·rw [if_neg (by rw [jT (hwant hw) rfl g1];simp)];exact ⟨fun f _=>trivial,nxt _ _ (step (zBG g1 hop) rfl)⟩
end
end Go.Vm
