/- A part of the proofs of the laws. -/
import Derived.Test.YtlhoihabllompaaGreatVmEfftoVmHeap
set_option linter.unusedSimpArgs false
set_option linter.unusedVariables false
set_option maxHeartbeats 8000000
set_option maxRecDepth 100000
namespace Go.Vm
open Go.RowKit
def zUW (o:Oper):Bool:=j0 o.op|| (((jC o.op).isSome|| (zAt o.op).isSome)&&o.guard.isNone)
def zNX:List Oper->Nat
 | []=>0
 | o::l=>match j0 o.op|| ((jC o.op).isSome&&o.guard.isNone) with|true=>zNX l+1|false=>0
def jZ:List Oper->List Tmp
 | []=>[]
 | o::l=>match jC o.op,o.dst with
   | some _,some d=>d::jZ l
   | _,_=>jZ l
def zSN (ops:Array Oper) (D:List Tmp):List Oper->Bool
 | []=>true
 | o::l=>(!(j0 o.op)|| (o.looksAt ops).all fun t=> !D.contains t)&&zSN ops D l
def zBp:List Oper->List Tmp
 | []=>[]
 | o::l=>match zAt o.op with
   | some (_,d,_)=>d::zBp l
   | none=>zBp l
def zEl (D:List Tmp):List Oper->Nat
 | []=>0
 | o ::l=>match j0 o.op with
   | true=>zEl D l+1
   | false=>match jC o.op,o.dst,zAt o.op,o.guard with
     | some _,some d,_,none=>zEl (d::D) l+1
     | none,_,some (_,d,_),none=>match zUt d D with|true=>zEl D l+1|false=>0
     | _,_,_,_=>0
def zJL:List (Tmp×TypeId)->List Oper->Bool
 | _,[]=>true
 | A,o::l=>(match zAt o.op with
     | some (t,d,_)=>A.any fun x=>Nat.beq x.1 d&&Nat.beq x.2 t
     | none=>true)&&zJL (match jC o.op,o.dst with|some t,some d=>(d,t)::A|_,_=>A) l
def zZx (D:List Tmp):List Oper->Bool
 | []=>true
 | o::l=>(match jC o.op,o.dst with|none,some d=> !zUt d D|_,_=>true)&&zZx D l
def zHu:List Oper->Bool
 | []=>true
 | o::l=>(match jC o.op with|some _=>o.dst.isSome|none=>true)&&zHu l
def zMJ (l:List Oper):Bool :=
 nodupB (jZ l)&&nodupB (zBp l)&&zJL [] l&&zZx (jZ l) l&&zHu l
def zSM (ops:Array Oper) (k:Nat):Bool :=
 Nat.ble k ops.size&&(ops.toList.take k).all zUW&&zMJ (ops.toList.take k) &&
 (zSN ops (jZ (ops.toList.take k)) (ops.toList.take k)&&zDr ops k k 0 (Array.replicate ops.size false) &&
   zCs ops (ops.size - k) k ((List.range k).foldl (fun l i=>l.setIfInBounds i true) (Array.replicate ops.size false)))
def zV4 (ops:Array Oper):Bool:=(zSM ops (zNX ops.toList)|| zSM ops (zEl [] ops.toList))|| zRV ops (zHr ops.toList)
def zFg (ops:Array Oper) (oF:Oper) (d:Tmp):List Oper->Bool
 | []=>true
 | o::l=>j0 o.op&&(!(o.looksAt ops).contains d&&(match o.dst with|some d'=> !Nat.beq d' d&& !(oF.looksAt ops).contains d'|none=>true))&&zFg ops oF d l
def zWy (ops:Array Oper) (f m:Nat):Bool:=match ops[f]? with
 | some oF=>match zDl oF with
   | some (_,_,d)=>Nat.ble (f+1+m) ops.size&&(ops.toList.take f).all (fun o=>j0 o.op)&&zFg ops oF d ((ops.toList.drop (f+1)).take m)&&zCT ops f [f] &&
      zDr ops (f+1+m) (f+1+m) 0 (Array.replicate ops.size false) &&
      zCs ops (ops.size - (f+1+m)) (f+1+m) ((List.range (f+1+m)).foldl (fun l i=>l.setIfInBounds i true) (Array.replicate ops.size false))
   | none=>false
 | none=>false
def zWK (ops:Array Oper) (f m m2:Nat):Bool:=match ops[f]?,ops[f+1+m]? with
 | some o1,some o2=>match zDl o1,zDl o2 with
   | some (_,_,d1),some (_,_,d2)=>Nat.ble (f+1+m+1+m2) ops.size&&(ops.toList.take f).all (fun o=>j0 o.op)&&zFg ops o1 d1 ((ops.toList.drop (f+1)).take m) &&
      zFg ops o1 d1 ((ops.toList.drop (f+1+m+1)).take m2)&&zFg ops o2 d2 ((ops.toList.drop (f+1+m+1)).take m2) &&
      (!Nat.beq d1 d2&& !(o1.looksAt ops).contains d2&& !(o2.looksAt ops).contains d1)&&zCT ops f [f]&&zCT ops (f+1+m) [f+1+m] &&
      zDr ops (f+1+m+1+m2) (f+1+m+1+m2) 0 (Array.replicate ops.size false) &&
      zCs ops (ops.size - (f+1+m+1+m2)) (f+1+m+1+m2) ((List.range (f+1+m+1+m2)).foldl (fun l i=>l.setIfInBounds i true) (Array.replicate ops.size false))
   | _,_=>false
 | _,_=>false
def zQK (o:Oper):Bool:=match o.op,o.guard,o.dst with
 | .store _ _ _,none,none=>true
 | _,_,_=>false
def zV3 (ops:Array Oper) (f m:Nat):Bool:=match ops[f]? with
 | some oF=>zQK oF&&Nat.ble (f+1+m) ops.size&&(ops.toList.take f).all (fun o=>j0 o.op)&&((ops.toList.drop (f+1)).take m).all (fun o=>j0 o.op) &&
    zDr ops (f+1+m) (f+1+m) 0 (Array.replicate ops.size false) &&
    zCs ops (ops.size - (f+1+m)) (f+1+m) ((List.range (f+1+m)).foldl (fun l i=>l.setIfInBounds i true) (Array.replicate ops.size false))
 | none=>false
def zLC (ops:Array Oper) (f:Nat) (d:Tmp):Nat->List Oper->Bool
 | _,[]=>true
 | i,o::l=>(zBQ ops f i|| (!(o.looksAt ops).contains d&&(match o.dst with|some d'=> !Nat.beq d' d|none=>true)))&&zLC ops f d (i+1) l
def zVo (ops:Array Oper) (f:Nat):Bool:=match ops[f]? with
 | some oF=>match zDl oF with
   | some (_,_,d)=>Nat.ble (f+1) ops.size&&(ops.toList.take f).all (fun o=>j0 o.op)&&zLC ops f d 0 (ops.toList.take f) &&
      zDr ops (f+1) (f+1) 0 (Array.replicate ops.size false) &&
      zCs ops (ops.size - (f+1)) (f+1) ((List.range (f+1)).foldl (fun l i=>l.setIfInBounds i true) (Array.replicate ops.size false))
   | none=>false
 | none=>false
def zaC:List Oper->List Tmp
 | []=>[]
 | o::l=>match zDl o with|some (_,_,d)=>d::zaC l|none=>zaC l
def zaW (ops:Array Oper) (o:Oper):List Oper->Bool
 | []=>true
 | o2::l=>(match o2.dst with|some d=> !(o.looksAt ops).contains d&& !(o.dst==some d)|none=>true)&&zaW ops o l
def zap (ops:Array Oper):List Oper->Bool
 | []=>true
 | o::l=>zaW ops o l&&zap ops l
def zaO (ops:Array Oper) (D:List Tmp):Option Nat->Nat->List Oper->Bool
 | _,_,[]=>true
 | p,i,o::l=>match zDl o with
   | some (_,y,_)=>(match p with|some j=>waits ops i j|none=>true)&&(match y with|.tmp t=> !D.contains t|_=>true)&&zaO ops D (some i) (i+1) l
   | none=>j0 o.op&&(o.looksAt ops).all (fun t=> !D.contains t)&&zaO ops D p (i+1) l
def zae (ops:Array Oper) (k:Nat):Bool :=
 Nat.ble k ops.size&&zaO ops (zaC (ops.toList.take k)) none 0 (ops.toList.take k)&&zap ops (ops.toList.take k) &&
 zDr ops k k 0 (Array.replicate ops.size false) &&
 zCs ops (ops.size - k) k ((List.range k).foldl (fun l i=>l.setIfInBounds i true) (Array.replicate ops.size false))
def z4M (ops:Array Oper):Bool:=match zaU ops ops.toList 0 with
 | some k=>zae ops k
 | none=>match zLc ops ops.toList 0 with
  | some (f,m)=>match zUf ops (f+1+m) with
    | some m2=>zWK ops f m m2
    | none=>zWy ops f m
  | none=>match z0n ops ops.toList 0 with
    | some f=>zVo ops f
    | none=>match storeAt ops ops.toList 0 with
      | some f=>zV3 ops f (z9K ops (f+1) (ops.toList.drop (f+1)))
      | none=>zV4 ops
def codeOk (N:Nat):Code->Bool
 | .region _ ops draw=>ops.toList.all (yT N)&&(!draw|| z4M ops)
 | .seq a b=>codeOk N a&&codeOk N b
 | .cond c a b=>zDy c&&codeOk N a&&codeOk N b
 | .block _ c=>codeOk N c
 | .loop c=>codeOk N c
 | .skip=>true
 | .label _=>true
 | .exit _=>true
 | .goto _=>true
 | .ret=>true
 | _=>false
section
variable {P:Program} {B:Base} {w:World} {I:Sig} {M:yR} {st:St} {T:Tab} {N:Nat} {a:Act} {r:Option Nat} {n:Nat} {ops:Array Oper} {Q:Exit->Act->World->Prop}
theorem zD2 {o:Oper} {K:Act->World->Prop} (h:o.wpIn (FR r) n P a w K (fun _ _ _=>False)): ∃ a' w',K a' w':=by
 obtain ⟨_,h⟩:=h;generalize (o.semAt (FR r).round a.eval).run P w=res at h;cases res with
 | halt x w'=>cases x<;>simp only [Oper.uponIn] at h
 | ok nx w' =>
   cases nx<;>simp only [Oper.uponIn] at h
   case value v=>exact ⟨_,_,h⟩
   case skip=>exact ⟨_,_,h⟩
   case defer d=>exact ⟨_,_,h⟩
   case enter f args =>
    obtain ⟨e,w'',fr,hR,_⟩:=h.2.2 [] (fun d hd=>by cases hd);cases e with
    | returned v=>exact ⟨_,_,hR⟩
    | panicked c=>exact hR.elim
    | outgrown=>obtain ⟨_,_,hR⟩:=hR;exact hR.elim
   case row row args =>
    obtain ⟨v,w'',hR,_⟩:=h.2 default [] (fun d hd=>by cases hd);exact ⟨_,_,hR⟩
   case round l f tmps assign body =>
    obtain ⟨e,w'',hR,_⟩:=h.2.2 default [] (fun d hd=>by cases hd);cases e with
    | returned v=>exact ⟨_,_,hR⟩
    | panicked c=>exact hR.elim
    | outgrown=>obtain ⟨_,_,hR⟩:=hR;exact hR.elim
def zAx (ops:Array Oper) (k i:Nat) (t:TypeId):Prop:=i<k/\∃ o,ops[i]? =some o/\jC o.op=some t
def zEH (d:Tmp):List Oper->Nat->Option Nat
 | [],_=>none
 | o::l,n=>match zAt o.op with
   | some (_,d',_)=>if d'=d then some n else zEH d l (n+1)
   | none=>zEH d l (n+1)
def initOf (ops:Array Oper) (k j:Nat):Option Nat:=match ops[j]? with
 | some o=>match o.dst with
   | some d=>zEH d (ops.toList.take k) 0
   | none=>none
 | none=>none
def z0g (ops:Array Oper) (k:Nat) (gf:Nat->List AS) (was:Nat->Bool) (z:List AS) (j:Nat):List AS:=match initOf ops k j with
 | some i=>match was i with
   | true=>zAZ z 0 (gf i)
   | false=>z
 | none=>z
theorem zEZ {d:Tmp} : ∀ {l:List Oper} {n i:Nat},zEH d l n=some i->∃ m o t x,i=n+m/\l[m]? =some o/\zAt o.op=some (t,d,x)
 | [],_,_,h=>by cases h
 | o ::l,n,i,h=>by
   simp only [zEH] at h;split at h
   ·rename_i t d' x hi;split at h
    ·rename_i e;subst e;cases h;exact ⟨0,o,t,x,rfl,rfl,hi⟩
    ·obtain ⟨m,o',t',x',e1,e2,e3⟩:=zEZ h;exact ⟨m+1,o',t',x',by omega,by simpa using e2,e3⟩
   ·obtain ⟨m,o',t',x',e1,e2,e3⟩:=zEZ h;exact ⟨m+1,o',t',x',by omega,by simpa using e2,e3⟩
theorem zE7 {i:Nat} : ∀ {l:List Nat},zUt i l=true↔i∈l
 | []=>by simp [zUt]
 | k ::r=>by
   simp only [zUt]
   by_cases e:k=i
   ·subst e;simp [zbJ]
   ·have:Nat.beq k i=false:=by
     cases h:Nat.beq k i with
     | false=>rfl
     | true=>exact (e (zH h)).elim
    rw [this];simp only [zE7 (l:=r),zT];exact ⟨.inr,fun h=>h.resolve_left (fun h=>e h.symm)⟩
theorem zFz {o:Oper} {t:TypeId} {d:Tmp} {x:Operand} (hi:zAt o.op=some (t,d,x)): ∀ {l:List Oper},o∈l->d∈zBp l
 | [],h=>by cases h
 | o'::l,h=>by
   simp only [zBp];rcases zT.1 h with rfl|h
   ·rw [hi];exact zY
   ·have:=zFz hi h;split
    ·exact zQ _ this
    ·exact this
theorem zFa {o:Oper} {t:TypeId} {d:Tmp} {x:Operand} (hi:zAt o.op=some (t,d,x)): ∀ {l:List Oper} {n m:Nat},nodupB (zBp l)=true->l[m]? =some o->zEH d l n=some (n+m)
 | [],_,_,_,h=>by simp at h
 | o'::l,n,0,_,h=>by
   simp at h;subst h;simp only [zEH,hi,if_true];rfl
 | o'::l,n,m+1,hn,h=>by
   have h':l[m]? =some o:=by simpa using h
   simp only [zEH];split
   ·rename_i t' d' x' hi';simp only [zBp,hi',nodupB,zC,zbB] at hn
    have hne:d'≠d:=by
     rintro rfl;have:=zE7.2 (zFz hi (zbM h'));rw [this] at hn;cases hn.1
    rw [if_neg hne,zFa hi hn.2 h'];congr 1;omega
   ·rename_i hi';simp only [zBp,hi'] at hn;rw [zFa hi hn h'];congr 1;omega
theorem zBX {o:Oper} {t:TypeId} {d:Tmp} (ha:jC o.op=some t) (hd:o.dst=some d): ∀ {l:List Oper},o∈l->d∈jZ l
 | [],h=>by cases h
 | o'::l,h=>by
   simp only [jZ];rcases zT.1 h with rfl|h
   ·rw [ha,hd];exact zY
   ·have:=zBX ha hd h;split
    ·exact zQ _ this
    ·exact this
theorem zFD {o o':Oper} {t t':TypeId} {d:Tmp} (ha:jC o.op=some t) (hd:o.dst=some d) (ha':jC o'.op=some t') (hd':o'.dst=some d) :
 ∀ {l:List Oper} {i j:Nat},nodupB (jZ l)=true->l[i]? =some o->l[j]? =some o'->i=j
 | [],_,_,_,h,_=>by simp at h
 | x::l,0,0,_,_,_=>rfl
 | x::l,0,j+1,hn,h,h'=>by
   simp at h;subst h;simp only [jZ,ha,hd,nodupB,zC,zbB] at hn;have:=zE7.2 (zBX ha' hd' (zbM (by simpa using h':l[j]? =some o')));rw [this] at hn;cases hn.1
 | x::l,i+1,0,hn,h,h'=>by
   simp at h';subst h';simp only [jZ,ha',hd',nodupB,zC,zbB] at hn;have:=zE7.2 (zBX ha hd (zbM (by simpa using h:l[i]? =some o)));rw [this] at hn;cases hn.1
 | x ::l,i+1,j+1,hn,h,h'=>by
   have hn':nodupB (jZ l)=true:=by
    simp only [jZ] at hn;split at hn
    ·simp only [nodupB,zC] at hn;exact hn.2
    ·exact hn
   have e:i=j:=zFD ha hd ha' hd' hn' (by simpa using h) (by simpa using h');rw [e]
structure z1W (ops:Array Oper) (k:Nat):Prop where
 initOf: ∀ (i j:Nat) (o oj:Oper) (t t':TypeId) (d:Tmp) (x:Operand),i<k->j<k->ops[i]? =some o->ops[j]? =some oj->zAt o.op=some (t,d,x)->jC oj.op=some t'->oj.dst=some d->initOf ops k j=some i
 inj: ∀ (i j:Nat) (o oj:Oper) (t t':TypeId) (d:Tmp),i<k->j<k->ops[i]? =some o->ops[j]? =some oj->jC o.op=some t->jC oj.op=some t'->o.dst=some d->oj.dst=some d->i=j
 has: ∀ (i:Nat) (o:Oper) (t:TypeId) (d:Tmp) (x:Operand),i<k->ops[i]? =some o->zAt o.op=some (t,d,x)->∃ (j:Nat) (oj:Oper),j<i/\ops[j]? =some oj/\jC oj.op=some t/\oj.dst=some d
 dst: ∀ (i:Nat) (o:Oper) (d:Tmp) (j:Nat) (oj:Oper) (t:TypeId),i<k->j<k->ops[i]? =some o->ops[j]? =some oj->jC o.op=none->jC oj.op=some t->oj.dst=some d->o.dst≠some d
 slot: ∀ (i:Nat) (o:Oper) (t:TypeId),i<k->ops[i]? =some o->jC o.op=some t->∃ d,o.dst=some d
theorem zHV: ∀ {l:List Oper} {A:List (Tmp×TypeId)},zJL A l=true->∀ (i:Nat) (o:Oper) (t:TypeId) (d:Tmp) (x:Operand),l[i]? =some o->zAt o.op=some (t,d,x)->(d,t)∈A\/∃ (j:Nat) (oj:Oper),j<i/\l[j]? =some oj/\jC oj.op=some t/\oj.dst=some d
 | [],_,_,i,o,t,d,x,h,_=>by simp at h
 | y::l,A,hc,0,o,t,d,x,h,hi=>by
   simp at h;subst h;simp only [zJL,hi,zC,zbz] at hc;obtain ⟨⟨⟨d',t'⟩,h1,h2,h3⟩,_⟩:=hc;have:=zH h2;have:=zH h3;simp only at *
   subst_vars
   exact .inl h1
 | y ::l,A,hc,i+1,o,t,d,x,h,hi=>by
   simp only [zJL,zC] at hc;rcases zHV hc.2 i o t d x (by simpa using h) hi with h1|⟨j,oj,h1,h2,h3,h4⟩
   ·split at h1
    ·rename_i t' d' ha hd;rcases zT.1 h1 with e|e
     ·cases e;exact .inr ⟨0,y,by omega,rfl,ha,hd⟩
     ·exact .inl e
    ·exact .inl h1
   ·exact .inr ⟨j+1,oj,by omega,by simpa using h2,h3,h4⟩
theorem zGx {D:List Tmp} : ∀ {l:List Oper},zZx D l=true->∀ o∈l,jC o.op=none->∀ d,o.dst=some d->d∉D
 | [],_,_,h,_,_,_=>by cases h
 | y ::l,hc,o,h,ha,d,hd=>by
   simp only [zZx,zC] at hc;rcases zT.1 h with rfl|h
   ·have:=hc.1;rw [ha,hd] at this;simp only [zbB] at this;intro hm;rw [zE7.2 hm] at this;cases this
   ·exact zGx hc.2 o h ha d hd
theorem zFq: ∀ {l:List Oper},zHu l=true->∀ o∈l,∀ t:TypeId,jC o.op=some t->∃ d,o.dst=some d
 | [],_,_,h,_,_=>by cases h
 | y::l,hc,o,h,t,ha=>by
   simp only [zHu,zC] at hc;rcases zT.1 h with rfl|h
   ·have:=hc.1;rw [ha] at this;exact zbt.1 this
   ·exact zFq hc.2 o h t ha
theorem z0h {k:Nat} (h:zMJ (ops.toList.take k)=true):z1W ops k:=by
 simp only [zMJ,zC] at h;obtain ⟨⟨⟨⟨h1,h2⟩,h3⟩,h4⟩,h5⟩:=h
 have get: ∀ {i:Nat} {o:Oper},i<k->ops[i]? =some o->(ops.toList.take k)[i]? =some o:=fun {i o} hi ho=>by
  rw [zbC,if_pos hi];simpa using ho
 have back: ∀ {i:Nat} {o:Oper},(ops.toList.take k)[i]? =some o->i<k/\ops[i]? =some o:=fun {i o} ho=>by
  rw [zbC] at ho;split at ho
  ·rename_i hi;exact ⟨hi,by simpa using ho⟩
  ·cases ho
 refine ⟨fun i j o oj t t' d x hi hj ho hoj hin ha hd=> ?_,fun i j o oj t t' d hi hj ho hoj ha ha' hd hd'=> ?_,fun i o t d x hi ho hin=> ?_,fun i o d j oj t hi hj ho hoj hn ha hd=> ?_,fun i o t hi ho ha=> ?_⟩
 ·simp only [Vm.initOf,hoj,hd];have:=zFa (n:=0) hin h2 (get hi ho);rw [zD] at this;exact this
 ·exact zFD ha hd ha' hd' h1 (get hi ho) (get hj hoj)
 ·rcases zHV h3 i o t d x (get hi ho) hin with e|⟨j,oj,q1,q2,q3,q4⟩
  ·cases e
  ·exact ⟨j,oj,q1,(back q2).2,q3,q4⟩
 ·intro e;exact zGx h4 o (zbM (get hi ho)) hn d e (zBX ha hd (zbM (get hj hoj)))
 ·exact zFq h5 o (zbM (get hi ho)) t ha
theorem zAM {k i j:Nat} (h:initOf ops k j=some i):i<k/\∃ o oj t d x,ops[i]? =some o/\ops[j]? =some oj/\zAt o.op=some (t,d,x)/\oj.dst=some d:=by
 unfold initOf at h;split at h
 ·rename_i oj hoj;split at h
  ·rename_i d hd;obtain ⟨m,o,t,x,e1,e2,e3⟩:=zEZ h;rw [zD] at e1;subst e1;rw [zbC] at e2;split at e2
   ·rename_i hm;exact ⟨hm,o,oj,t,d,x,by simpa using e2,hoj,e3,hd⟩
   ·cases e2
  ·cases h
 ·cases h
theorem zIP {op:Op} {t:TypeId} {d:Tmp} {x:Operand} (h:zAt op=some (t,d,x)):op= .store t (.tmp d) x:=by
 revert h
 cases op<;>simp only [zAt]<;>first|(intro h;cases h;done)|skip
 rename_i t' y z;cases y<;>simp only [zAt]<;>intro h<;>cases h;rfl
theorem zHG {op:Op} {r:TypeId×Tmp×Operand} (h:zAt op=some r):jC op=none:=by
 obtain ⟨t,d,x⟩:=r;rw [zIP h];rfl
theorem zBc {k:Nat} {gf gf':Nat->List AS} {was was':Nat->Bool} {z:List AS} {j:Nat} (h: ∀ i,initOf ops k j=some i->was i=was' i/\(was i=true->gf i=gf' i)):z0g ops k gf was z j=z0g ops k gf' was' z j:=by
 unfold z0g;split
 ·rename_i i hi;obtain ⟨h1,h2⟩:=h i hi;rw [<- h1];split
  ·rename_i hw;rw [h2 hw]
  ·rfl
 ·rfl
theorem zEh {k:Nat} {gf:Nat->List AS} {was:Nat->Bool} {z:List AS} {j:Nat} (h: ∀ i,initOf ops k j=some i->was i=false):z0g ops k gf was z j=z:=by
 unfold z0g;split
 ·rename_i i hi;rw [h i hi]
 ·rfl
theorem zNU {k:Nat} {gf:Nat->List AS} {was:Nat->Bool} {z:List AS} {i j:Nat} (h:initOf ops k j=some i) (hw:was i=true):z0g ops k gf was z j=zAZ z 0 (gf i):=by
 unfold z0g;rw [h];simp only [hw]
theorem zPQ {T:Tab} {t u:TypeId} {id:Nat} {v:AV} {st:St} {d:Option Tmp} {m cs:List AS} (hv:v.flat=some m) (h1:(Nat.beq m.length (T.sizeOf t)&& !Nat.beq (T.sizeOf t) 0)=true) (h2:m.all AS.storable=true)
 (hh:hget st.hp id=some (.flat u cs)) (h3:Nat.ble (0+m.length) cs.length=true) :
 zBz T t (.s (.ptr id 0 0)) v st d=some (none,none,({st with hp:=zA6 st.hp id (.flat u (zAZ cs 0 m))} :St).put d .undef):=by
 simp only [zBz,hv,h1,h2,hh,h3]
theorem zIM {T:Tab} {t u:TypeId} {id:Nat} {v:AV} {st:St} {d:Option Tmp} {cs:List AS} {r} (h:zBz T t (.s (.ptr id 0 0)) v st d=some r) (hh:hget st.hp id=some (.flat u cs)) :
 ∃ m,v.flat=some m/\(Nat.beq m.length (T.sizeOf t)&& !Nat.beq (T.sizeOf t) 0)=true/\m.all AS.storable=true/\Nat.ble (0+m.length) cs.length=true/\r=(none,none,({st with hp:=zA6 st.hp id (.flat u (zAZ cs 0 m))} :St).put d .undef):=by
 unfold zBz at h;cases hv:v.flat with
 | none=>simp only [hv] at h;cases h
 | some m =>
   simp only [hv,hh] at h;cases h1:(Nat.beq m.length (T.sizeOf t)&& !Nat.beq (T.sizeOf t) 0) with
   | false=>simp only [h1] at h;cases h
   | true =>
     cases h2:m.all AS.storable with
     | false=>simp only [h1,h2] at h;cases h
     | true =>
       simp only [h1,h2] at h;cases h3:Nat.ble (0+m.length) cs.length with
       | false=>simp only [h3] at h;cases h
       | true=>simp only [h3] at h;exact ⟨m,rfl,h1,h2,h3,(Option.some.inj h).symm⟩
structure RF (B:Base) (N:Nat) (T:Tab) (ops:Array Oper) (k:Nat) (hp:jJ) (nx:Nat) (gf:Nat->List AS) (listed:Array Bool) (e:Fr) (a:Act) (w:World) (env:Env) (hp':jJ) (M:yR):Prop where
 look:yZ env=e
 gb:GB B N M ⟨env,hp',nx+zBO ops.toList k⟩ a w
 ext:z7j nx hp hp'
 done: ∀ i t,zAx ops k i t->listed.getD i true=true->∃ ti,T.info t=some ti/\hget hp' (nx+zBO ops.toList i)=some (.flat t (z0g ops k gf (fun x=>listed.getD x true) ti.zero i))
 wait: ∀ i t,zAx ops k i t->listed.getD i true=false->hget hp' (nx+zBO ops.toList i)=none/\M[nx+zBO ops.toList i]? =some dead
 only: ∀ id ob,hget hp' id=some ob->id<nx\/∃ i t,zAx ops k i t/\id=nx+zBO ops.toList i
 first: ∀ i j t,initOf ops k j=some i->zAx ops k j t->listed.getD i true=true->listed.getD j true=true
theorem zPz {o:Oper} {t:TypeId} (h2:jC o.op=some t): ∀ (l:List Oper) (i j:Nat),l[i]? =some o->i<j->zBO l i<zBO l j:=by
 intro l
 induction l with
 | nil=>intro i j h;simp at h
 | cons x l ih =>
   intro i j h h3;obtain ⟨j',rfl⟩: ∃ j',j=j'+1:=⟨j - 1,by omega⟩;cases i with
   | zero=>simp at h;subst h;simp only [zBO,h2];omega
   | succ i =>
     simp only [zBO];have:=ih i j' (by simpa using h) (by omega);omega
theorem zEd {k i j:Nat} {t u:TypeId} (hi:zAx ops k i t) (hj:zAx ops k j u) (h:zBO ops.toList i=zBO ops.toList j):i=j:=by
 obtain ⟨_,o,ho,ha⟩:=hi;obtain ⟨_,o',ho',ha'⟩:=hj;rcases Nat.lt_trichotomy i j with hlt|heq|hgt
 ·have:=zPz ha ops.toList i j (by simpa using ho) hlt;omega
 ·exact heq
 ·have:=zPz ha' ops.toList j i (by simpa using ho') hgt;omega
theorem zAK (env:Env) (hp:jJ) (nx:Nat) (d:Option Tmp) (v:AV): ∃ env',(⟨env,hp,nx⟩:St).put d v=⟨env',hp,nx⟩/\yZ env'=upd (yZ env) d v:=by
 cases d with
 | none=>exact ⟨env,rfl,rfl⟩
 | some t=>exact ⟨(t,v)::env,rfl,by funext x;rw [qR];rfl⟩
theorem zGA {t:Array Value} {j:Nat} {d:Tmp} {vs:Array Value} (hd:qT ops j=some d) (hv:t.getD d undef= .tuple vs):yielded ops t j=none:=by
 unfold qT at hd;unfold yielded;split at hd
 ·rename_i o' ho';simp only [ho',Option.bind_some,hd];cases e:t[d]? with
  | none=>rfl
  | some v =>
    simp only [zL,e,zbU] at hv;subst hv;rfl
 ·cases hd
theorem jT {e:Fr} {o:Oper} {b:Bool} (hw:qD ops e o=some b) {env:Env} (he:yZ env=e) {hp:jJ} {nx:Nat} (h:GA B N ⟨env,hp,nx⟩ a w):Region.wanted o (yielded ops a.tmps)=b:=by
 unfold qD at hw;unfold Region.wanted;split at hw
 ·rename_i hg;cases hw;simp [hg]
 ·rename_i j want hg;simp only [hg];obtain ⟨I,M,hgg⟩:=h.gg;split at hw
  ·rename_i d hd;have hv:=hgg.env d;rw [he] at hv;split at hw
   ·rename_i b' hb';rw [hb'] at hv;cases hw;rw [zEu hd (show a.tmps.getD d undef= .bool b' from hv)];cases b'<;>cases want<;>rfl
   ·rename_i vs hb';rw [hb'] at hv;cases hw;rw [zGA hd hv.1];rfl
   ·cases hw
  ·cases hw
theorem zZ2 (R:jM P T) {env:Env} {hp':jJ} {m:Nat} (h:GB B N M ⟨env,hp',m⟩ a w) {o:Oper} (ho:yT N o=true) {t:TypeId} (hop:o.op= .alloc t) {ti:TI} (hti:T.info t=some ti) {id:Nat} (hdd:M[id]? =some dead) {K:Act->World->Prop}
 (hK: ∀ (a':Act) (w':World) (p:Option Bk),GB B N (M.set id p) ((⟨env,(id,.flat t ti.zero)::hp',m⟩:St).put o.dst (.s (.ptr id 0 0))) a' w'->K a' w'):o.wpIn (FR r) n P a w K Q:=by
 obtain ⟨I,hg⟩:=h.gg;obtain ⟨i,z,hi,hs,hb,hz,hzl⟩:=(R.ty _ _ hti).get
 have hx:(execOp a.eval o).run P w= .ok (.value (.pointer (some ⟨w.heap.size,0,none⟩))) (w.alloc (.cells z.cells t)):=by
  simp [execOp,hop,Instr.alloc,zeroValue,typeInfo,hi,hz,newVar,newRow]
 refine ⟨fun f _=>trivial,?_⟩;rw [Oper.semAt_eq _ _ _ (by intro c e;rw [hop] at e;cases e),hx];exact hK _ _ _ (zCf h.defers h.size ⟨I,hg.revive hdd (zAb h.size ho) (by rw [hzl];exact zEe (R.ty _ _ hti).zok)⟩)
theorem jA {l:Array Bool} {i:Nat} :(l.setIfInBounds i true).getD i true=true:=by
 rcases Nat.lt_or_ge i l.size with h'|h'
 ·simp [zL,h']
 ·simp [zL,zbZ (show (l.setIfInBounds i true).size<=i by simpa using h')]
theorem zG6 {op:Op} {t:TypeId} (h:jC op=some t):op= .alloc t:=by
 cases op<;>simp only [jC] at h<;>first|contradiction|(cases h;rfl)
theorem zIR (R:jM P T) (hall: ∀ (i:Nat) (o:Oper),ops[i]? =some o->yT N o=true) {hp:jJ} {nx k fuel:Nat} {gf:Nat->List AS} {ef:Fr} (hF:z1W ops k) (lk:Array Bool)
 (htail: ∀ (a:Act) (w:World) (listed:Array Bool) (env:Env) (hp':jJ) (M:yR),(∀ i<k,listed.getD i true=true)->(∀ i,listed.getD i true=lk.getD i true)->listed.size=lk.size->RF B N T ops k hp nx gf listed ef a w env hp' M->wpAnyIn (FR r) n P .any ops Q fuel listed a w) :
 ∀ (m:Nat) (listed:Array Bool) (e:Fr) (a:Act) (w:World) (env:Env) (hp':jJ) (M:yR),zDa (Yields T ops hp nx gf) ops k ef m listed e->(∀ i,k<=i->listed.getD i true=lk.getD i true)->(∀ i<k,lk.getD i true=true)->listed.size=lk.size->RF B N T ops k hp nx gf listed e a w env hp' M->
   wpAnyIn (FR r) n P .any ops Q (m+fuel) listed a w
 | 0,listed,e,a,w,env,hp',M,h,hl1,hl2,hs,hr=>by
   obtain ⟨h1,rfl⟩:=h;rw [zD];refine htail a w listed env hp' M h1 (fun i=> ?_) hs hr
   by_cases hi:i<k
   ·rw [h1 i hi,hl2 i hi]
   ·exact hl1 i (by omega)
 | m + 1,listed,e,a,w,env,hp',M,h,hl1,hl2,hs,hr=>by
   rw [show m+1+fuel=(m+fuel)+1 by omega];refine ⟨fun h0=>(h.1 h0).elim,fun i hi=> ?_⟩;obtain ⟨hik,o,v,ho,hy,hk⟩:=h.2 i hi;have hun:=(mem_ready.1 hi).1;have hop:=hall i o ho
   have nxt: ∀ (a':Act) (w':World) (env':Env) (hp2:jJ) (β':yR),RF B N T ops k hp nx gf (listed.setIfInBounds i true) (upd e o.dst v) a' w' env' hp2 β'->wpAnyIn (FR r) n P .any ops Q (m+fuel) (listed.setIfInBounds i true) a' w':=fun a' w' env' hp2 β' hr' =>
    zIR R hall hF lk htail m _ _ a' w' env' hp2 β' hk (fun j hj=>by rw [getD_set_ne true (by omega)];exact hl1 j hj) hl2 (by simpa using hs) hr'
   unfold wpOpIn;simp only [ho];unfold Yields at hy;split at hy
   ·rename_i hna;split at hy
    ·-- a calm one
     rename_i hni
     have keep: ∀ {j:Nat} {t:TypeId},zAx ops k j t->(listed.setIfInBounds i true).getD j true=listed.getD j true:=fun {j t} hj=>by
      refine getD_set_ne true (fun e=> ?_);obtain ⟨_,o',ho',ha'⟩:=hj;rw [<- e,ho] at ho';cases ho';rw [hna] at ha';cases ha'
     have keepI: ∀ {i' j:Nat},initOf ops k j=some i'->(listed.setIfInBounds i true).getD i' true=listed.getD i' true:=fun {i' j} hj=>by
      refine getD_set_ne true (fun e=> ?_);obtain ⟨_,o',_,_,_,_,ho',_,hin,_⟩:=zAM hj;rw [<- e,ho] at ho';cases ho';rw [hni] at hin;cases hin
     have step: ∀ {u:AV} {a':Act} {w':World},GB B N M ((⟨env,hp',nx+zBO ops.toList k⟩:St).put o.dst u) a' w'->∃ env',RF B N T ops k hp nx gf (listed.setIfInBounds i true) (upd e o.dst u) a' w' env' hp' M:=fun {u a' w'} hgb=>by
      obtain ⟨env',e1,e2⟩:=zAK env hp' (nx+zBO ops.toList k) o.dst u;rw [e1] at hgb
      exact ⟨env',by rw [e2,hr.look],hgb,hr.ext,fun j t hj hl=>by
       obtain ⟨ti,q1,q2⟩:=hr.done j t hj (by rw [<- keep hj];exact hl);refine ⟨ti,q1,?_⟩;rw [q2,zBc (gf':=gf) (was':=fun x=>(listed.setIfInBounds i true).getD x true) fun i' hi'=>⟨(keepI hi').symm,fun _=>rfl⟩],fun j t hj hl=>hr.wait j t hj (by rw [<- keep hj];exact hl),hr.only,
       fun i' j t hi' hj hl=>by rw [keep hj];exact hr.first i' j t hi' hj (by rw [<- keepI hi'];exact hl)⟩
     rcases hy with ⟨hw,p,q,hc,hq⟩|⟨hw,rfl⟩
     ·rw [if_pos (jT hw hr.look hr.gb.ga)];have hc:=hc hp' hr.ext;rw [<- hr.look,y4] at hc;refine (zLS R hr.gb hop hc).2 hq fun a' w' hga'=> ?_;obtain ⟨env',h'⟩:=step hga';exact nxt a' w' _ _ _ h'
     ·rw [if_neg (by rw [jT hw hr.look hr.gb.ga];simp)];refine ⟨fun f _=>trivial,?_⟩
      have:GB B N M ((⟨env,hp',nx+zBO ops.toList k⟩:St).put o.dst .undef) (a.put o.dst undef) w:=by
       obtain ⟨I,hg⟩:=hr.gb.gg;exact zCf hr.gb.defers hr.gb.size ⟨I,hg.put (zAb hr.gb.size hop) y6.undef⟩
      obtain ⟨env',h'⟩:=step this;exact nxt _ _ _ _ _ h'
    ·-- a store into a thing that was allocated there
     rename_i t d x hin;obtain ⟨hg,rfl,j,oj,ti,hji,hoj,haj,hdj,hed,hti,hfl,c1,c2,c3⟩:=hy;have hjk:j<k:=by omega
     have hat:zAx ops k j t:=⟨hjk,oj,hoj,haj⟩;have hop':=zIP hin;have hof:initOf ops k j=some i:=hF.initOf i j o oj t t d x hik hjk ho hoj hin haj hdj
     have hjl:listed.getD j true=true:=by
      cases hl:listed.getD j true with
      | true=>rfl
      | false =>
        obtain ⟨_,hdd⟩:=hr.wait j t hat hl;obtain ⟨I,hgg⟩:=hr.gb.gg;have hv:=hgg.env d;have hed':yZ env d= .s (.ptr (nx+zBO ops.toList j) 0 0):=by rw [hr.look];exact hed
        rw [show yZ (⟨env,hp',nx+zBO ops.toList k⟩:St).env d=_ from hed'] at hv;obtain ⟨p,e1,_,e2⟩:=hv;rw [hdd] at e1;cases e1;exact absurd e2 (by simp [dead])
     obtain ⟨ti',q1,q2⟩:=hr.done j t hat hjl;rw [hti] at q1;cases q1;rw [zEh fun i' hi'=>by rw [hof] at hi';cases hi';exact hun] at q2;rw [if_pos (by simp [Region.wanted,hg])]
     have hest:zBz T t (y7 env (.tmp d)) (y7 env x) ⟨env,hp',nx+zBO ops.toList k⟩ o.dst=some (none,none,(⟨env,zA6 hp' (nx+zBO ops.toList j) (.flat t (zAZ ti.zero 0 (gf i))),nx+zBO ops.toList k⟩:St).put o.dst .undef):=by
      rw [<- y4,hr.look,hed];exact zPQ hfl c1 c2 q2 c3
     refine zTl R hr.gb hop hop' hest fun a' w' hgb=> ?_;obtain ⟨env',e1,e2⟩:=zAK env (zA6 hp' (nx+zBO ops.toList j) (.flat t (zAZ ti.zero 0 (gf i)))) (nx+zBO ops.toList k) o.dst .undef;rw [e1] at hgb;have hset_get: ∀ id,hget (zA6 hp' (nx+zBO ops.toList j) (.flat t (zAZ ti.zero 0 (gf i)))) id=if id=nx+zBO ops.toList j then some (.flat t (zAZ ti.zero 0 (gf i))) else hget hp' id:=fun id=>zAR ⟨_,q2⟩
     have keep: ∀ {j':Nat} {t':TypeId},zAx ops k j' t'->(listed.setIfInBounds i true).getD j' true=listed.getD j' true:=fun {j' t'} hj=>by
      refine getD_set_ne true (fun e=> ?_);obtain ⟨_,o',ho',ha'⟩:=hj;rw [<- e,ho] at ho';cases ho';rw [hna] at ha';cases ha'
     refine nxt a' w' env' _ _ ⟨by rw [e2,hr.look],hgb,fun id hid=> ?_,fun j' u hj' hl=> ?_,fun j' u hj' hl=> ?_,fun id ob hi'=> ?_,fun i' j' u hi' hj' hl=> ?_⟩
     ·rw [hset_get,if_neg (by omega)];exact hr.ext id hid
     ·by_cases hjj:j'=j
      ·subst hjj;obtain ⟨_,o',ho',ha'⟩:=hj';rw [hoj] at ho';cases ho';rw [haj] at ha';cases ha';refine ⟨ti,hti,?_⟩;rw [hset_get,if_pos rfl,zNU hof jA]
      ·obtain ⟨ti',q3,q4⟩:=hr.done j' u hj' (by rw [<- keep hj'];exact hl);refine ⟨ti',q3,?_⟩;rw [hset_get,if_neg (fun e=>hjj (zEd hj' hat (by omega))),q4];rw [zBc (gf':=gf) (was':=fun x=>(listed.setIfInBounds i true).getD x true) fun i' hi'=>⟨(getD_set_ne true (fun e=> ?_)).symm,fun _=>rfl⟩];subst e;obtain ⟨_,o',oj',t',d',x',r1,r2,r3,r4⟩:=zAM hi';obtain ⟨hjk',o2,ho2,ha2⟩:=hj';rw [ho] at r1;cases r1;rw [hin] at r3;cases r3
       rw [ho2] at r2;cases r2;exact hjj (hF.inj j' j _ _ _ _ _ hjk' hjk ho2 hoj ha2 haj r4 hdj)
     ·rw [keep hj'] at hl;obtain ⟨q3,q4⟩:=hr.wait j' u hj' hl;refine ⟨?_,q4⟩;rw [hset_get];split
      ·rename_i e;have:=zEd hj' hat (by omega);subst this;rw [hjl] at hl;cases hl
      ·exact q3
     ·rw [hset_get] at hi';split at hi'
      ·rename_i e;exact .inr ⟨j,t,hat,e⟩
      ·exact hr.only id ob hi'
     ·rw [keep hj']
      by_cases hii:i'=i
      ·subst hii;obtain ⟨_,o',oj',t',d',x',r1,r2,r3,r4⟩:=zAM hi';obtain ⟨hjk',o2,ho2,ha2⟩:=hj';rw [ho] at r1;cases r1;rw [hin] at r3;cases r3;rw [ho2] at r2;cases r2;rw [hF.inj j' j _ _ _ _ _ hjk' hjk ho2 hoj ha2 haj r4 hdj];exact hjl
      ·rw [getD_set_ne true (Ne.symm hii)] at hl;exact hr.first i' j' u hi' hj' hl
   ·-- an allocation
    rename_i t ha;obtain ⟨hg,hti,rfl⟩:=hy;obtain ⟨ti,hti⟩:=zbt.1 hti;have hat:zAx ops k i t:=⟨hik,o,ho,ha⟩;obtain ⟨_,hdd⟩:=hr.wait i t hat hun
    have keepI: ∀ {i' j:Nat},initOf ops k j=some i'->(listed.setIfInBounds i true).getD i' true=listed.getD i' true:=fun {i' j} hj=>by
     refine getD_set_ne true (fun e=> ?_);obtain ⟨_,o',_,_,_,_,ho',_,hin,_⟩:=zAM hj;rw [<- e,ho] at ho';cases ho';rw [zHG hin] at ha;cases ha
    rw [if_pos (by simp [Region.wanted,hg])];refine zZ2 R hr.gb hop (zG6 ha) hti hdd fun a' w' p hgb=> ?_;obtain ⟨env',e1,e2⟩:=zAK env ((nx+zBO ops.toList i,.flat t ti.zero)::hp') (nx+zBO ops.toList k) o.dst (.s (.ptr (nx+zBO ops.toList i) 0 0));rw [e1] at hgb;refine nxt a' w' env' _ _ ⟨by rw [e2,hr.look],hgb,fun id hid=> ?_,fun j u hj hl=> ?_,fun j u hj hl=> ?_,fun id ob hi'=> ?_,fun i' j u hi' hj hl=> ?_⟩
    ·rw [yL,if_neg (by omega)];exact hr.ext id hid
    ·rw [yL]
     by_cases hji:i=j
     ·subst hji;obtain ⟨_,o',ho',ha'⟩:=hj;rw [ho] at ho';cases ho';rw [ha] at ha';cases ha';refine ⟨ti,hti,?_⟩;rw [if_pos rfl,zEh fun i' hi'=> ?_];rw [keepI hi'];cases hl':listed.getD i' true with
      | false=>rfl
      | true=>rw [hr.first i' i _ hi' hat hl'] at hun;cases hun
     ·rw [getD_set_ne true hji] at hl;rw [if_neg (fun e=>hji (zEd hat hj (by omega)))];obtain ⟨ti',q1,q2⟩:=hr.done j u hj hl;refine ⟨ti',q1,?_⟩;rw [q2,zBc (gf':=gf) (was':=fun x=>(listed.setIfInBounds i true).getD x true) fun i' hi'=>⟨(keepI hi').symm,fun _=>rfl⟩]
    ·by_cases hji:i=j
     ·subst hji;rw [jA] at hl;cases hl
     ·rw [getD_set_ne true hji] at hl;have hne:nx+zBO ops.toList i≠nx+zBO ops.toList j:=fun e=>hji (zEd hat hj (by omega));obtain ⟨q1,q2⟩:=hr.wait j u hj hl;exact ⟨by rw [yL,if_neg hne];exact q1,by rw [zba hne];exact q2⟩
    ·rw [yL] at hi';split at hi'
     ·rename_i e;exact .inr ⟨i,t,hat,e.symm⟩
     ·exact hr.only id ob hi'
    ·rw [keepI hi'] at hl;have:=hr.first i' j u hi' hj hl
     by_cases hji:i=j
     ·subst hji;exact jA
     ·rw [getD_set_ne true hji];exact this
theorem zC6 (R:jM P T) (hall: ∀ (i:Nat) (o:Oper),ops[i]? =some o->yT N o=true): ∀ (l:List Oper) (t:Nat) (listed:Array Bool) {st:St} {a:Act} {w:World} {K:St->Prop},(∀ j:Nat,l[j]? =ops[t+j]?)->
 zCs ops l.length t listed=true->GA B N st a w->zAN T true ops l st K->(∀ st' a' w',K st'->GA B N st' a' w'->Q .normal a' w')->wpAnyIn (FR r) n P .any ops Q l.length listed a w
 | [],t,listed,st,a,w,K,_,hB,h,hk,hQ=>⟨by simpa [zCs] using hB,hQ _ _ _ hk h⟩
 | o :: l, t,listed,st,a,w,K,hl,hB,h,hk,hQ=>by
   have h0:ops[t]? =some o:=by simpa using (hl 0).symm
   have ho:=hall t o h0;have hl': ∀ j:Nat,l[j]? =ops[t+1+j]? :=fun j=>by have:=hl (j+1);simpa [zbi,zbv 1 j] using this
   simp only [yA,zCs,zC,beq_iff_eq] at hB;obtain ⟨hr,hB'⟩:=hB;refine ⟨fun h=>(by rw [h] at hr;cases hr),fun i hi=> ?_⟩;rw [hr] at hi;obtain rfl:=zF.1 hi
   have run: ∀ {st:St},GA B N st a w->aop T true o st (fun st'=>zAN T true ops l st' K)->o.wpIn (FR r) n P a w (wpAnyIn (FR r) n P .any ops Q l.length (listed.setIfInBounds i true)) Q:=fun h hk =>
    z1z R h ho hk fun st' a' w' hk' h'=>zC6 R hall l (i+1) _ hl' hB' h' hk' hQ
   have skip: ∀ {st:St},GA B N st a w->zAN T true ops l (st.put o.dst .undef) K->wpAnyIn (FR r) n P .any ops Q l.length (listed.setIfInBounds i true) (a.put o.dst undef) w:=fun h hk =>
    zC6 R hall l (i+1) _ hl' hB' (zBG h ho) hk hQ
   unfold wpOpIn;simp only [h0];simp only [zAN,St.force_eq] at hk;cases hg:o.guard with
   | none =>
     simp only [hg] at hk;rw [if_pos (by simp [Region.wanted,hg])];exact run h hk
   | some jw =>
     obtain ⟨j,want⟩:=jw;simp only [hg] at hk;obtain ⟨I,M,hgg⟩:=h.gg;split at hk
     ·rename_i b hb;obtain ⟨d,hd,hd2⟩:=j8 (ops:=ops) (env:=st.env) (j:=j) (by rw [hb];simp);rw [hd2] at hb;have hv:=hgg.env d;rw [hb] at hv;have hy:=zEu (ops:=ops) hd (show a.tmps.getD d undef= .bool b from hv);rw [hd] at hk;cases b with
      | true =>
        cases want with
        | true =>
          rw [if_pos (by simp [Region.wanted,hg,hy])];exact run (zBv h hb) hk
        | false =>
          rw [if_neg (by simp [Region.wanted,hg,hy])];exact ⟨fun f _=>trivial,skip (zBv h hb) hk⟩
      | false =>
        cases want with
        | true =>
          rw [if_neg (by simp [Region.wanted,hg,hy])];exact ⟨fun f _=>trivial,skip (zBv h hb) hk⟩
        | false =>
          rw [if_pos (by simp [Region.wanted,hg,hy])];exact run (zBv h hb) hk
     ·rename_i vs hb;obtain ⟨d,hd,hd2⟩:=j8 (ops:=ops) (env:=st.env) (j:=j) (by rw [hb];simp);rw [hd2] at hb;have hv:=hgg.env d;rw [hb] at hv;rw [if_neg (by simp [Region.wanted,hg,zGA hd hv.1])];exact ⟨fun f _=>trivial,skip h hk⟩
     ·exact hk.elim
theorem zH1 {t:TypeId} {m:Nat} {ps:List (Nat×AV)} {d:Option Tmp} (h:zC3 T t m ps=none):zCY T t m ps st d=none:=by
 unfold zC3 at h;unfold zCY;split at h
 ·split at h
  ·split at h
   ·split at h
    ·cases h
    ·rfl
   ·rfl
  ·rfl
 ·rfl
theorem zFo {o:Oper} (hc:j0 o.op=true) (h:jY T o st=none):zJg T o st=none:=by
 unfold jY at h;split at h
 ·cases h
 ·rename_i hn;unfold zJg;split
  ·rfl
  rename_i hv;unfold zCG;obtain ⟨dst,op,type,pos,after,guard⟩:=o;cases op<;>simp only [j0] at hc<;>first|contradiction|rfl|skip
  case buildSlice t m ps=>exact zH1 hn
  case call c =>
   obtain ⟨callee,args,ts⟩:=c;cases callee with
   | builtin b=>cases b<;>first|contradiction|rfl
   | value v=>cases hv
   | _=>rfl
end
end Go.Vm
namespace Go.Vm
open Go.RowKit
theorem zDK (ops:Array Oper) (o:Oper):slotsOf ops o=o.looksAt ops:=by
 unfold slotsOf Oper.looksAt
 congr 1
 cases o.guard with
 | none=>rfl
 | some jw =>
   obtain ⟨j,w⟩:=jw;simp only;cases ops[j]? with
   | none=>rfl
   | some o' =>
     simp only [Option.bind_some];cases o'.dst<;>rfl
theorem z5S {i r:Nat} (h:(!Nat.beq i r)=true):Nat.beq i r=false:=by simpa using h
theorem AS.kill_free {r:Nat} {a:AS} (h:a.free r=true):kill r a=a:=by
 cases a<;>simp only [kill]<;>simp only [AS.free] at h<;>(try rw [z5S h])
theorem zHv {r:Nat} : ∀ {l:List AS},l.all (AS.free r)=true->l.map (kill r)=l
 | [],_=>rfl
 | a::l,h=>by
   simp only [zb2,zC] at h;rw [zbk,AS.kill_free h.1,zHv h.2]
theorem AV.kill_free {r:Nat} {v:AV} (h:v.free r=true):v.mapAS (kill r)=v:=by
 cases v with
 | s a=>simp only [AV.mapAS];rw [AS.kill_free h]
 | agg l=>simp only [AV.mapAS];rw [zHv h]
 | tup l =>
   simp only [AV.mapAS]
   congr 1
   simp only [AV.free] at h
   induction l with
   | nil=>rfl
   | cons v l ih =>
     simp only [zb2,zC] at h;rw [zbk,ih h.2]
     congr 1
     cases v with
     | s a=>simp only [AV.map1];rw [AS.kill_free h.1]
     | agg l=>simp only [AV.map1];rw [zHv h.1]
     | tup l=>cases h.1
theorem zRE {r:Nat} : ∀ {l:Env},(l.all fun x=>x.2.free r)=true->Env.mapAS (kill r) l=l
 | [],_=>rfl
 | (t,v)::l,h=>by
   simp only [zb2,zC] at h;simp only [Env.mapAS];rw [AV.kill_free h.1,zRE h.2]
theorem Ob.kill_free {r:Nat} {o:Ob} (h:o.free r=true):o.mapAS (kill r)=o:=by
 cases o with
 | flat u cs=>simp only [Ob.mapAS];rw [zHv h]
 | fr X l=>simp only [Ob.mapAS];rw [zRE h]
 | _=>rfl
theorem zEQ {r:Nat} : ∀ {hp:jJ},zD8 r hp=true->∀ id,id≠r->hget (hp.mapAS (kill r)) id=hget hp id
 | [],_,_,_=>rfl
 | (k,o)::l,h,id,hne=>by
   simp only [zD8,zC,zbA] at h;simp only [jJ.mapAS,yL];split
   ·rename_i e;rcases h.1 with hb|hf
    ·exact absurd (e.symm.trans (zH hb)) hne
    ·rw [Ob.kill_free hf]
   ·exact zEQ h.2 id hne
theorem zD5 {r:Nat} : ∀ {hp:jJ},zD8 r hp=true->∀ id t cs,id≠r->hget hp id=some (.flat t cs)->cs.all (AS.free r)=true
 | [],_,_,_,_,_,h=>by cases h
 | (k,o)::l,h,id,t,cs,hne,hi=>by
   simp only [zD8,zC,zbA] at h;simp only [yL] at hi;split at hi
   ·rename_i e;cases hi;rcases h.1 with hb|hf
    ·exact absurd (e.symm.trans (zH hb)) hne
    ·exact hf
   ·exact zD5 h.2 id t cs hne hi
theorem AS.free_okP {r:Nat} {a:AS} (h:a.free r=true):a.okP (fun i=> !Nat.beq i r)=true:=by cases a<;>exact h
theorem AV.free_okP {r:Nat} {v:AV} (h:v.free r=true):v.okP (fun i=> !Nat.beq i r):=by
 cases v with
 | s a=>exact AS.free_okP h
 | agg l=>exact zJ.2 fun a ha=>AS.free_okP (zJ.1 h a ha)
 | tup l=>trivial
theorem zKD {r:Nat} (u:Value):(AS.ofVal u).free r=true:=by
 unfold AS.ofVal;split<;>rfl
theorem zGt {r:Nat} (u:Value):(AV.ofVal u).free r=true:=by
 unfold AV.ofVal;split
 ·simp only [AV.free,List.all_map,zJ];intro a _;exact zKD a
 ·exact zKD u
theorem zB8 {o:Oper} {x y:Operand} {d:Tmp} (h:zDl o=some (x,y,d)):o.guard=none/\o.dst=some d/\∃ ts,o.op= .call ⟨.builtin .append,#[x,y],ts⟩:=by
 unfold zDl at h;split at h
 ·rename_i c d' hop hg hd;split at h
  ·rename_i x' y' hc ha;cases h;obtain ⟨callee,args,ts⟩:=c;simp only at hc ha;subst hc;have:args= #[x,y]:=by rw [<- Array.toArray_toList (xs:=args),ha]
   subst this;exact ⟨hg,hd,ts,hop⟩
  ·cases h
 ·cases h
theorem zFV {T:Tab} {ts:List TypeId} {xv yv:AV} {env:Env} {hp:jJ} {nx:Nat} {d:Option Tmp} {res} (hne: ∀ e,xv≠.s (.emp e)) (h:zB9 T ts xv yv ⟨env,hp,nx⟩ d=some res) :
 ∃ r s n n' row q,xv= .s (.own r s n)/\(∃ ob,hget hp r=some ob)/\res=(none,q,(⟨env.mapAS (kill r),zA6 (hp.mapAS (kill r)) r row,nx⟩:St).put d (.s (.own r 0 n')))/\∀ env',zB9 T ts xv yv ⟨env',hp,nx⟩ d=some (none,q,(⟨env'.mapAS (kill r),zA6 (hp.mapAS (kill r)) r row,nx⟩:St).put d (.s (.own r 0 n'))):=by
 have hun: ∀ st,zB9 T ts xv yv st d=zac T ts xv yv st d:=fun st=>by
  unfold zB9;split
  ·rename_i e;exact absurd rfl (hne e)
  ·rfl
 simp only [hun] at h ⊢;unfold zac at h ⊢;dsimp only at h ⊢;split at h
 case h_2=>cases h
 rename_i t t' id s n e' ys hys;split at h
 case h_2=>cases h
 rename_i u' e u xs hb hd hid;split at h
 case h_2=>cases h
 rename_i he ui hdec hbu hui;split at h
 case h_2=>cases h
 rename_i c1 c2 c3;refine ⟨id,s,n,n+ys.length,.row e u ((xs.drop s).take n++(he▸ys)),some (((n:Int)+ys.length)*ui.bytes<=140737488355328),rfl,⟨_,hid⟩,(Option.some.inj h).symm,fun env'=> ?_⟩;simp only [hys,hb,hd,hid,hdec,hbu,hui,c1,c2,c3]
section
variable {P:Program} {B:Base} {w:World} {I:Sig} {M:yR} {st:St} {T:Tab} {N:Nat} {a:Act} {r:Option Nat} {n:Nat} {ops:Array Oper} {Q:Exit->Act->World->Prop}
def YA (T:Tab) (ops:Array Oper) (hp:jJ) (f row:Nat) (x y:Operand) (xv yv vF:AV) (i:Nat) (o:Oper) (v:AV) (e:Fr):Prop :=
 (i=f/\v=vF/\(x∈o.op.operands/\y∈o.op.operands)/\jK e x=xv/\jK e y=yv)\/
 (i≠f/\((qD ops e o=some true/\∃ p q,jO T o.op (jK e) hp=some (p,q,v)/\Opt q)\/(qD ops e o=some false/\v= .undef))/\(f<i->(∀ t∈o.looksAt ops,(e t).free row=true)/\(o.dst≠none->v.free row=true)))
theorem zAj {o:Oper} {e:Fr} {d:Option Tmp} {u:AV} (h: ∀ t,d=some t->t∉o.looksAt ops):qD ops (upd e d u) o=qD ops e o:=by
 unfold qD;cases hg:o.guard with
 | none=>rfl
 | some jw =>
   obtain ⟨j,want⟩:=jw;simp only;cases hs:qT ops j with
   | none=>rfl
   | some s =>
     simp only
     have:upd e d u s=e s:=by
      cases d with
      | none=>rfl
      | some t =>
        have hne:t≠s:=by
         rintro rfl;refine h t rfl ?_;simp only [Oper.looksAt,hg,yD];right;unfold qT at hs;cases ho:ops[j]? with
         | none=>simp [ho] at hs
         | some o'=>simp only [ho] at hs;simp [hs]
        simp [upd,hne]
     rw [this]
theorem zCb {o:Oper} {t:Tmp} (h:Operand.tmp t∈o.op.operands):t∈o.looksAt ops:=by
 simp only [Oper.looksAt,yD,List.mem_filterMap];exact .inl ⟨.tmp t,by simpa using h,rfl⟩
theorem yW {o:Oper} {e:Fr} {d:Option Tmp} {u:AV} (h: ∀ t,d=some t->t∉o.looksAt ops): ∀ x∈o.op.operands,jK (upd e d u) x=jK e x:=fun x hx=>zJ8 fun t ht hxt=>h t ht (by subst hxt;exact zCb hx)
theorem upd_same {e:Fr} {d:Option Tmp} {u:AV} {t:Tmp} (h: ∀ t',d=some t'->t'≠t):upd e d u t=e t:=by
 cases d with
 | none=>rfl
 | some t'=>simp only [upd];rw [if_neg (h t' rfl)]
theorem zZ7 {hp:jJ} {f row:Nat} {x y:Operand} {xv yv vF:AV} :zOy (YA T ops hp f row x y xv yv vF) ops:=by
 intro i o v u e d h;unfold YA;rw [zAj h,qF (yW h)];have: ∀ t∈o.looksAt ops,upd e d u t=e t:=fun t ht=>upd_same fun t' hd e=>h t' hd (e▸ht);constructor
 ·rintro (⟨h1,h2,h3,h4⟩|⟨h1,h2,h3⟩)
  ·rw [yW h x h3.1,yW h y h3.2] at h4;exact .inl ⟨h1,h2,h3,h4⟩
  ·exact .inr ⟨h1,h2,fun hlt=>⟨fun t ht=>by rw [<- this t ht];exact (h3 hlt).1 t ht,(h3 hlt).2⟩⟩
 ·rintro (⟨h1,h2,h3,h4⟩|⟨h1,h2,h3⟩)
  ·rw [<- yW h x h3.1,<- yW h y h3.2] at h4;exact .inl ⟨h1,h2,h3,h4⟩
  ·exact .inr ⟨h1,h2,fun hlt=>⟨fun t ht=>by rw [this t ht];exact (h3 hlt).1 t ht,(h3 hlt).2⟩⟩
theorem zN2 {draw:Bool} {o:Oper} {l:List Oper} {st:St} {K:St->Prop} (h:zAN T draw ops (o::l) st K):zAN T draw ops [o] st (fun s=>zAN T draw ops l s K):=by
 simp only [zAN] at h ⊢;exact h
theorem zCE (R:jM P T) {o:Oper} (hc:j0 o.op=true) (ho:yT N o=true) {env:Env} {hp:jJ} {nx:Nat} (h:GA B N ⟨env,hp,nx⟩ a w) {K:St->Prop} (hk:zAN T true ops [o] ⟨env,hp,nx⟩ K) :
 ∃ v env' a' w',yZ env'=upd (yZ env) o.dst v/\K ⟨env',hp,nx⟩/\GA B N ⟨env',hp,nx⟩ a' w'/\
   ((qD ops (yZ env) o=some true/\∃ p q,jO T o.op (jK (yZ env)) hp=some (p,q,v)/\Opt q)\/(qD ops (yZ env) o=some false/\v= .undef)):=by
 have run: ∀ {env1:Env},yZ env1=yZ env->qD ops (yZ env) o=some true->aop T true o ⟨env1,hp,nx⟩ K->
  ∃ v env' a' w',yZ env'=upd (yZ env) o.dst v/\K ⟨env',hp,nx⟩/\GA B N ⟨env',hp,nx⟩ a' w'/\
  ((qD ops (yZ env) o=some true/\∃ p q,jO T o.op (jK (yZ env)) hp=some (p,q,v)/\Opt q)\/(qD ops (yZ env) o=some false/\v= .undef)):=by
  intro env1 hE hw hk;have hEv:y7 env1=jK (yZ env):=by rw [<- y4,hE]
  have h1:GA B N ⟨env1,hp,nx⟩ a w:=by
   obtain ⟨I,M,hg⟩:=h.gg;exact ⟨h.defers,h.size,I,M,hg.congr hE.symm fun _=>rfl⟩
  have core: ∀ {p q:Option Prop} {st':St},zBr T true o ⟨env1,hp,nx⟩=some (p,q,st')->Opt p/\(Opt q->K st'->
   ∃ v env' a' w',yZ env'=upd (yZ env) o.dst v/\K ⟨env',hp,nx⟩/\GA B N ⟨env',hp,nx⟩ a' w'/\
   ((qD ops (yZ env) o=some true/\∃ p q,jO T o.op (jK (yZ env)) hp=some (p,q,v)/\Opt q)\/(qD ops (yZ env) o=some false/\v= .undef))):=by
   intro p q st' hs;unfold zBr at hs;simp only at hs;split at hs
   ·rename_i res hcs;cases Option.some.inj hs;unfold jY at hcs;split at hcs
    ·rename_i p' q' v hv;cases hcs;obtain ⟨g1,g2⟩:=zBw (r:=none) (n:=0) R h1 ho hv;refine ⟨g1,fun hq hk'=> ?_⟩;obtain ⟨a',w',hga'⟩:=zD2 (g2 hq (K:=fun a' w'=>GA B N ((⟨env1,hp,nx⟩:St).put o.dst v) a' w') (Q:=fun _ _ _=>False) fun _ _ h=>h);obtain ⟨env',e1,e2⟩:=zAK env1 hp nx o.dst v;rw [e1] at hk' hga';refine ⟨v,env',a',w',by rw [e2,hE],hk',hga',.inl ⟨hw,p,q,?_,hq⟩⟩;rw [<- hEv];exact hv
    ·cases hcs
   ·rename_i hcs;rw [zFo hc hcs] at hs;cases hs
  simp only [aop] at hk;unfold zSI at hk;simp only [St.force_eq] at hk;split at hk
  ·rename_i st' hs;exact (core hs).2 trivial hk
  ·rename_i p st' hs;obtain ⟨h1,h2⟩:=core hs;exact h2 trivial (hk.out h1)
  ·rename_i q st' hs;obtain ⟨h1,h2⟩:=core hs;obtain ⟨k1,k2⟩:=hk.out;exact h2 k1 k2
  ·rename_i p q st' hs;obtain ⟨h1,h2⟩:=core hs;obtain ⟨k1,k2⟩:=(hk.out h1).out;exact h2 k1 k2
  ·exact hk.elim
 have skip: ∀ {env1:Env},yZ env1=yZ env->qD ops (yZ env) o=some false->K ((⟨env1,hp,nx⟩:St).put o.dst .undef)->
  ∃ v env' a' w',yZ env'=upd (yZ env) o.dst v/\K ⟨env',hp,nx⟩/\GA B N ⟨env',hp,nx⟩ a' w'/\
  ((qD ops (yZ env) o=some true/\∃ p q,jO T o.op (jK (yZ env)) hp=some (p,q,v)/\Opt q)\/(qD ops (yZ env) o=some false/\v= .undef)):=by
  intro env1 hE hw hk
  have h1:GA B N ⟨env1,hp,nx⟩ a w:=by
   obtain ⟨I,M,hg⟩:=h.gg;exact ⟨h.defers,h.size,I,M,hg.congr hE.symm fun _=>rfl⟩
  obtain ⟨env',e1,e2⟩:=zAK env1 hp nx o.dst .undef;have hga:=zBG h1 ho;rw [e1] at hk hga;exact ⟨.undef,env',_,w,by rw [e2,hE],hk,hga,.inr ⟨hw,rfl⟩⟩
 simp only [zAN,St.force_eq] at hk;cases hg:o.guard with
 | none =>
   simp only [hg] at hk;exact run rfl (by simp [qD,hg]) hk
 | some jw =>
   obtain ⟨j,want⟩:=jw;simp only [hg] at hk;split at hk
   ·rename_i b hb;obtain ⟨d,hd,hd2⟩:=j8 (ops:=ops) (env:=env) (j:=j) (by rw [hb];simp);rw [hd2] at hb;rw [hd] at hk;have hw:qD ops (yZ env) o=some (b==want):=by simp [qD,hg,hd,hb]
    have hE: ∀ b',yZ env d= .s (.bool b')->yZ ((d,.s (.bool b'))::env)=yZ env:=fun b' hb'=>by
     funext x;rw [qR];split
     ·rename_i e;subst e;exact hb'.symm
     ·rfl
    cases b with
    | true =>
      cases want with
      | true=>exact run (hE _ hb) hw hk
      | false=>exact skip (hE _ hb) hw hk
    | false =>
      cases want with
      | true=>exact skip (hE _ hb) hw hk
      | false=>exact run (hE _ hb) hw hk
   ·rename_i vs hb;obtain ⟨d,hd,hd2⟩:=j8 (ops:=ops) (env:=env) (j:=j) (by rw [hb];simp);rw [hd2] at hb;exact skip rfl (by simp [qD,hg,hd,hb]) hk
   ·exact hk.elim
theorem zAr {Y:Nat->Oper->AV->Fr->Prop} {em ef:Fr} : ∀ {l1 l2:List Oper} {i:Nat} {e:Fr},zAl Y em i l1 e->zAl Y ef (i+l1.length) l2 em->zAl Y ef i (l1++l2) e
 | [],l2,i,e,h1,h2=>by
   obtain rfl:e=em:=h1;simpa using h2
 | o::l1,l2,i,e,⟨v,h1,h3⟩,h2=>⟨v,h1,zAr h3 (by rw [show i+1+l1.length=i+(o::l1).length by simp;omega];exact h2)⟩
theorem zFh (R:jM P T) {hp:jJ} {nx f:Nat} : ∀ (l:List Oper) (i:Nat) {env:Env} {a:Act} {w:World} {K:St->Prop},i+l.length<=f->(∀ o∈l,j0 o.op=true/\yT N o=true)->
 GA B N ⟨env,hp,nx⟩ a w->zAN T true ops l ⟨env,hp,nx⟩ K->∃ env' a' w',K ⟨env',hp,nx⟩/\GA B N ⟨env',hp,nx⟩ a' w'/\∀ row x y xv yv vF,zAl (YA T ops hp f row x y xv yv vF) (yZ env') i l (yZ env)
 | [],i,env,a,w,K,_,_,h,hk=>⟨env,a,w,hk,h,fun _ _ _ _ _ _=>rfl⟩
 | o::l,i,env,a,w,K,hi,hl,h,hk=>by
   simp only [yA] at hi;obtain ⟨hc,ho⟩:=hl o (by simp);obtain ⟨v,env1,a1,w1,e1,k1,g1,y1⟩:=zCE R hc ho h (zN2 hk);obtain ⟨env',a',w',k2,g2,y2⟩:=zFh R (f:=f) l (i+1) (by omega) (fun o' h'=>hl o' (by simp [h'])) g1 k1;exact ⟨env',a',w',k2,g2,fun row x y xv yv vF=>⟨v,.inr ⟨by omega,y1,fun hlt=>absurd hlt (by omega)⟩,by rw [<- e1];exact y2 row x y xv yv vF⟩⟩
theorem zKB (R:jM P T) {hp:jJ} {nx f row:Nat} {oF:Oper} {d:Tmp} {x y:Operand} (hx:x∈oF.op.operands) (hy:y∈oF.op.operands) :
 ∀ (l:List Oper) (i:Nat) {env:Env} {a:Act} {w:World} {K:St->Prop},f<i->(∀ j:Nat,j<l.length->l[j]? =ops[i+j]?)->zFg ops oF d l=true->(∀ o∈l,yT N o=true)->
 GA B N ⟨env,hp,nx⟩ a w->zZw T row ops l ⟨env,hp,nx⟩ K->∃ env' a' w',K ⟨env',hp,nx⟩/\GA B N ⟨env',hp,nx⟩ a' w'/\(jK (yZ env') x=jK (yZ env) x/\jK (yZ env') y=jK (yZ env) y)/\
  ∀ xv yv vF,zAl (YA T ops hp f row x y xv yv vF) (upd (yZ env') (some d) vF) i l (upd (yZ env) (some d) vF)
 | [],i,env,a,w,K,_,_,_,_,h,hk=>⟨env,a,w,hk,h,⟨rfl,rfl⟩,fun _ _ _=>rfl⟩
 | o ::l,i,env,a,w,K,hi,hop,hw,hl,h,hk=>by
   simp only [zFg,zC,zbB] at hw;obtain ⟨⟨hc,hlk,hdst⟩,hw'⟩:=hw;simp only [zZw] at hk;split at hk
   case h_2=>exact hk.elim
   rename_i hfo;obtain ⟨v,env1,a1,w1,e1,k1,g1,y1⟩:=zCE R hc (hl o (by simp)) h hk;split at k1
   case h_2=>exact k1.elim
   rename_i hfd
   obtain ⟨env',a',w',k2,g2,⟨ex,ey⟩,y2⟩:=zKB R (f:=f) hx hy l (i+1) (by omega) (fun j hj=>by
    have:=hop (j+1) (by simp;omega);simpa [zbi,zbv 1 j] using this) hw' (fun o' h'=>hl o' (by simp [h'])) g1 k1
   have h0:ops[i]? =some o:=by simpa using (hop 0 (by simp)).symm
   have hdl: ∀ t,some d=some t->t∉o.looksAt ops:=fun t e hm=>by
    cases e;have:(o.looksAt ops).contains d=true:=by simpa using hm
    rw [hlk] at this;cases this
   have hdd: ∀ t,some d=some t->o.dst≠some t:=fun t e hd=>by
    cases e;rw [hd] at hdst;simp only [zC,zbB] at hdst;rw [zbJ] at hdst;cases hdst.1
   have hdF: ∀ t,o.dst=some t->t∉oF.looksAt ops:=fun t hd hm=>by
    rw [hd] at hdst;simp only [zC,zbB] at hdst;have:(oF.looksAt ops).contains t=true:=by simpa using hm
    rw [this] at hdst;cases hdst.2
   refine ⟨env',a',w',k2,g2,⟨?_,?_⟩,fun xv yv vF=>⟨v,.inr ⟨by omega,?_,fun _=>⟨fun t ht=> ?_,fun hne=> ?_⟩⟩,?_⟩⟩
   ·rw [ex,e1];exact yW hdF x hx
   ·rw [ey,e1];exact yW hdF y hy
   ·rw [zAj hdl,qF (yW hdl)];exact y1
   ·rw [upd_same fun t' e=>by cases e;rintro rfl;exact hdl _ rfl ht];simp only [zBt,zJ,zDK] at hfo;exact hfo t ht
   ·cases hd:o.dst with
    | none=>exact absurd hd hne
    | some t =>
      simp only [zCl,hd] at hfd;have:yZ env1 t=v:=by rw [e1,hd];simp [upd]
      rw [this] at hfd;exact hfd
   ·rw [zGF hdd,<- e1];exact y2 xv yv vF
structure FA (B:Base) (N:Nat) (ops:Array Oper) (k f row:Nat) (d:Tmp) (hp:jJ) (nx:Nat) (hpF:jJ) (listed:Array Bool) (e:Fr) (a:Act) (w:World):Prop where
 dn: ∀ j i,j<k->listed.getD j true=true->waits ops j i=true->listed.getD i true=true
 pre:listed.getD f true=false->∃ env,yZ env=e/\GA B N ⟨env,hp,nx⟩ a w
 post:listed.getD f true=true->∃ env,(∀ t,yZ env t=if t=d then e t else (e t).mapAS (kill row))/\GA B N ⟨env,hpF,nx⟩ a w
theorem zDO {k:Nat} {listed:Array Bool} (dn: ∀ j i,j<k->listed.getD j true=true->waits ops j i=true->listed.getD i true=true): ∀ (i:Nat) (acc:List Nat),zCT ops i acc=true->(∀ j∈acc,j<k/\listed.getD j true=true)->i<=k->∀ i'<i,listed.getD i' true=true
 | 0,_,_,_,_,i',h=>absurd h (by omega)
 | i + 1,acc,hn,ha,hik,i',hi'=>by
   simp only [zCT] at hn;split at hn
   case h_2=>cases hn
   rename_i hany;obtain ⟨j,hj,hw⟩:=zbz.1 hany;have hi:listed.getD i true=true:=dn j i (ha j hj).1 (ha j hj).2 hw
   by_cases e:i'=i
   ·subst e;exact hi
   ·exact zDO dn i (i::acc) hn (fun j hj=>by
     rcases zT.1 hj with rfl|hj
     ·exact ⟨by omega,hi⟩
     ·exact ha j hj) (by omega) i' (by omega)
theorem zCS {l:Array Bool} {i:Nat} (h:l.getD i false=true):l.getD i true=true:=by
 rcases Nat.lt_or_ge i l.size with h'|h'
 ·simpa [zL,h'] using h
 ·simp [zL,zbZ h'] at h
theorem zJ2 {i j:Nat} {listed:Array Bool} (h:i∈Region.ready .any ops listed) (hw:waits ops i j=true):listed.getD j true=true:=by
 obtain ⟨_,o,ho,hall⟩:=mem_ready.1 h;unfold waits at hw;rw [ho] at hw;obtain ⟨x,hx,hb⟩:=Array.any_eq_true'.1 hw;simp only [zC,beq_iff_eq] at hb;have:=hall x hx hb.1;rw [hb.2] at this;exact zCS this
theorem zNx (R:jM P T) (hall: ∀ (i:Nat) (o:Oper),ops[i]? =some o->yT N o=true) {hp hpF:jJ} {nx k f row fuel:Nat} {d:Tmp} {oF:Oper} {x y:Operand} {xv yv vF:AV} {ef:Fr} {q:Option Prop} (lk:Array Bool)
 (hfk:f<k) (hoF:ops[f]? =some oF) (hgF:oF.guard=none) (hdF:oF.dst=some d) (hq:Opt q)
 (hF: ∀ env,y7 env x=xv->y7 env y=yv->zCG T oF ⟨env,hp,nx⟩=some (none,q,(⟨env.mapAS (kill row),hpF,nx⟩:St).put (some d) vF)) (hneed:zCT ops f [f]=true)
 (hsame: ∀ id,id≠row->hget hpF id=hget hp id) (hflat:zGW (fun i=> !Nat.beq i row) hp)
 (hwin: ∀ i o,f<i->i<k->ops[i]? =some o->d∉o.looksAt ops/\o.dst≠some d)
 (htail: ∀ (a:Act) (w:World) (listed:Array Bool) (env:Env),(∀ i<k,listed.getD i true=true)->(∀ i,listed.getD i true=lk.getD i true)->listed.size=lk.size->(∀ t,yZ env t=if t=d then ef t else (ef t).mapAS (kill row))->GA B N ⟨env,hpF,nx⟩ a w->wpAnyIn (FR r) n P .any ops Q fuel listed a w) :
 ∀ (m:Nat) (listed:Array Bool) (e:Fr) (a:Act) (w:World),zDa (YA T ops hp f row x y xv yv vF) ops k ef m listed e->(∀ i,k<=i->listed.getD i true=lk.getD i true)->(∀ i<k,lk.getD i true=true)->listed.size=lk.size->FA B N ops k f row d hp nx hpF listed e a w->
   wpAnyIn (FR r) n P .any ops Q (m+fuel) listed a w
 | 0,listed,e,a,w,h,hl1,hl2,hs,hr=>by
   obtain ⟨h1,rfl⟩:=h;rw [zD];obtain ⟨env,e1,g1⟩:=hr.post (h1 f hfk);refine htail a w listed env h1 (fun i=> ?_) hs e1 g1
   by_cases hi:i<k
   ·rw [h1 i hi,hl2 i hi]
   ·exact hl1 i (by omega)
 | m + 1,listed,e,a,w,h,hl1,hl2,hs,hr=>by
   rw [show m+1+fuel=(m+fuel)+1 by omega];refine ⟨fun h0=>(h.1 h0).elim,fun i hi=> ?_⟩;obtain ⟨hik,o,v,ho,hy,hk⟩:=h.2 i hi;have hun:=(mem_ready.1 hi).1;have hop:=hall i o ho
   have nxt: ∀ (a':Act) (w':World),FA B N ops k f row d hp nx hpF (listed.setIfInBounds i true) (upd e o.dst v) a' w'->wpAnyIn (FR r) n P .any ops Q (m+fuel) (listed.setIfInBounds i true) a' w':=fun a' w' hr' =>
    zNx R hall lk hfk hoF hgF hdF hq hF hneed hsame hflat hwin htail m _ _ a' w' hk (fun j hj=>by rw [getD_set_ne true (by omega)];exact hl1 j hj) hl2 (by simpa using hs) hr'
   have dn': ∀ j i',j<k->(listed.setIfInBounds i true).getD j true=true->waits ops j i'=true->(listed.setIfInBounds i true).getD i' true=true:=fun j i' hj hl hw=>by
    have hres:listed.getD i' true=true:=by
     by_cases e:i=j
     ·subst e;exact zJ2 hi hw
     ·rw [getD_set_ne true e] at hl;exact hr.dn j i' hj hl hw
    by_cases e:i=i'
    ·subst e;exact jA
    ·rw [getD_set_ne true e];exact hres
   unfold wpOpIn;simp only [ho];rcases hy with ⟨rfl,rfl,_,hxv,hyv⟩|⟨hif,hyc,hfree⟩
   ·-- the append
    rw [hoF] at ho;cases ho;obtain ⟨env,e1,g1⟩:=hr.pre hun;rw [if_pos (by simp [Region.wanted,hgF])];have he:=hF env (by rw [<- y4,e1];exact hxv) (by rw [<- y4,e1];exact hyv);refine (zHD R g1 hop he).2 hq fun a' w' hga=>nxt a' w' ⟨dn',fun hl=> ?_,fun _=>⟨_,fun t=> ?_,hga⟩⟩
    ·rw [jA] at hl;cases hl
    ·show yZ ((d,v)::env.mapAS (kill row)) t=_;rw [qR,hdF]
     by_cases e:t=d
     ·subst e;simp [upd]
     ·rw [if_neg (Ne.symm e),if_neg e,j7 _ rfl,e1];simp only [upd];rw [if_neg (Ne.symm e)]
   ·have keepF:(listed.setIfInBounds i true).getD f true=listed.getD f true:=getD_set_ne true hif;cases hlf:listed.getD f true with
    | false =>
      obtain ⟨env,e1,g1⟩:=hr.pre hlf
      have step: ∀ {a':Act} {w':World} {u:AV},GA B N ((⟨env,hp,nx⟩:St).put o.dst u) a' w'->u=v->FA B N ops k f row d hp nx hpF (listed.setIfInBounds i true) (upd e o.dst v) a' w':=fun {a' w' u} hga hu=>by
       subst hu;obtain ⟨env',e2,e3⟩:=zAK env hp nx o.dst u;rw [e2] at hga;exact ⟨dn',fun _=>⟨env',by rw [e3,e1],hga⟩,fun hl=>by rw [keepF,hlf] at hl;cases hl⟩
      rcases hyc with ⟨hw,p,q',hc,hq'⟩|⟨hw,rfl⟩
      ·rw [if_pos (jT hw e1 g1)];rw [<- e1,y4] at hc;exact (zBw R g1 hop hc).2 hq' fun a' w' hga=>nxt a' w' (step hga rfl)
      ·rw [if_neg (by rw [jT hw e1 g1];simp)];exact ⟨fun f _=>trivial,nxt _ _ (step (zBG g1 hop) rfl)⟩
    | true =>
      obtain ⟨env,e1,g1⟩:=hr.post hlf
      have hfi:f<i:=by
       rcases Nat.lt_trichotomy i f with hlt|heq|hgt
       ·have:=zDO hr.dn f [f] hneed (fun j hj=>by
         obtain rfl:=zF.1 hj;exact ⟨hfk,hlf⟩) (by omega) i hlt
        rw [this] at hun;cases hun
       ·exact absurd heq hif
       ·exact hgt
      obtain ⟨hf1,hf2⟩:=hfree hfi;obtain ⟨hd1,hd2⟩:=hwin i o hfi hik ho
      have hlook: ∀ t∈o.looksAt ops,yZ env t=e t:=fun t ht=>by
       rw [e1,if_neg (by rintro rfl;exact hd1 ht),AV.kill_free (hf1 t ht)]
      have hopnd: ∀ x∈o.op.operands,y7 env x=jK e x:=fun x hx=>by
       cases x with
       | tmp t=>exact hlook t (zCb hx)
       | _=>rfl
      have hwant: ∀ {b},qD ops e o=some b->qD ops (yZ env) o=some b:=fun {b} hw=>by
       rw [<- hw];unfold qD;cases hg:o.guard with
       | none=>rfl
       | some jw =>
         obtain ⟨j,want⟩:=jw;simp only;cases hs:qT ops j with
         | none=>rfl
         | some s =>
           simp only
           rw [hlook s (by
            simp only [Oper.looksAt,hg,yD];right;unfold qT at hs;cases ho:ops[j]? with
            | none=>simp [ho] at hs
            | some o'=>simp only [ho] at hs;simp [hs])]
      have step: ∀ {a':Act} {w':World} {u:AV},GA B N ((⟨env,hpF,nx⟩:St).put o.dst u) a' w'->u=v->FA B N ops k f row d hp nx hpF (listed.setIfInBounds i true) (upd e o.dst v) a' w':=fun {a' w' u} hga hu=>by
       subst hu;obtain ⟨env',e2,e3⟩:=zAK env hpF nx o.dst u;rw [e2] at hga;refine ⟨dn',fun hl=>(by rw [keepF,hlf] at hl;cases hl),fun _=>⟨env',fun t=> ?_,hga⟩⟩;rw [e3];cases hd:o.dst with
       | none=>exact e1 t
       | some d' =>
         simp only [upd];have hne:d'≠d:=fun e=>hd2 (by rw [hd,e])
         by_cases e:d'=t
         ·subst e;rw [if_pos rfl,if_neg hne,if_pos rfl,AV.kill_free (hf2 (by rw [hd];simp))]
         ·rw [if_neg e,if_neg e];exact e1 t
      rcases hyc with ⟨hw,p,q',hc,hq'⟩|⟨hw,rfl⟩
      ·rw [if_pos (jT (hwant hw) rfl g1)]
       have hc':jO T o.op (y7 env) hpF=some (p,q',v):=by
        rw [qF hopnd,zDR (Pr:=fun i=> !Nat.beq i row) (fun x hx=>AV.free_okP (by
         cases x with
         | tmp t=>exact hf1 t (zCb hx)
         | const u=>exact zGt u
         | _=>rfl)) (hp:=hp) (fun id hid=>hsame id (fun e=>by subst e;simp [zbJ] at hid)) hflat]
        exact hc
       exact (zBw R g1 hop hc').2 hq' fun a' w' hga=>nxt a' w' (step hga rfl)
      ·rw [if_neg (by rw [jT (hwant hw) rfl g1];simp)];exact ⟨fun f _=>trivial,nxt _ _ (step (zBG g1 hop) rfl)⟩
end
end Go.Vm
namespace Go.Vm
open Go.RowKit
section
variable {P:Program} {B:Base} {w:World} {I:Sig} {M:yR} {st:St} {T:Tab} {N:Nat} {a:Act} {r:Option Nat} {n:Nat} {ops:Array Oper} {Q:Exit->Act->World->Prop}
structure Flt where
 f:Nat
 row:Nat
 x:Operand
 y:Operand
 xv:AV
 yv:AV
 v:AV
def zSh (T:Tab) (ops:Array Oper) (hp:jJ) (o:Oper) (v:AV) (e:Fr):Prop:=(qD ops e o=some true/\∃ p q,jO T o.op (jK e) hp=some (p,q,v)/\Opt q)\/(qD ops e o=some false/\v= .undef)
def z4f (ops:Array Oper) (row:Nat) (o:Oper) (v:AV) (e:Fr):Prop:=(∀ t∈o.looksAt ops,(e t).free row=true)/\(o.dst≠none->v.free row=true)
def YB (T:Tab) (ops:Array Oper) (hp hp1 hp2:jJ) (A C:Flt) (i:Nat) (o:Oper) (v:AV) (e:Fr):Prop :=
 (i=A.f/\v=A.v/\(A.x∈o.op.operands/\A.y∈o.op.operands)/\jK e A.x=A.xv/\jK e A.y=A.yv)\/
 (i=C.f/\v=C.v/\(C.x∈o.op.operands/\C.y∈o.op.operands)/\(jK e C.x=C.xv/\jK e C.y=C.yv)/\∀ t∈o.looksAt ops,(e t).free A.row=true)\/
 (i≠A.f/\i≠C.f/\zSh T ops hp o v e/\(A.f<i->z4f ops A.row o v e/\jO T o.op (jK e) hp1=jO T o.op (jK e) hp)/\(C.f<i->z4f ops C.row o v e/\jO T o.op (jK e) hp2=jO T o.op (jK e) hp))
theorem z14 {hp hp1 hp2:jJ} {A C:Flt} :zOy (YB T ops hp hp1 hp2 A C) ops:=by
 intro i o v u e d h;unfold YB zSh z4f;rw [zAj h,qF (yW h) (hp:=hp),qF (yW h) (hp:=hp1),qF (yW h) (hp:=hp2)];have same: ∀ t∈o.looksAt ops,upd e d u t=e t:=fun t ht=>upd_same fun t' hd e=>h t' hd (e▸ht);have fr: ∀ row,(∀ t∈o.looksAt ops,(upd e d u t).free row=true)↔∀ t∈o.looksAt ops,(e t).free row=true:=fun row=>⟨fun k t ht=>by rw [<- same t ht];exact k t ht,fun k t ht=>by rw [same t ht];exact k t ht⟩
 rw [fr A.row,fr C.row];have op: ∀ x∈o.op.operands,jK (upd e d u) x=jK e x:=yW h;constructor
 ·rintro (⟨h1,h2,h3,h4⟩|⟨h1,h2,h3,h4,h5⟩|h)
  ·rw [op A.x h3.1,op A.y h3.2] at h4;exact .inl ⟨h1,h2,h3,h4⟩
  ·rw [op C.x h3.1,op C.y h3.2] at h4;exact .inr (.inl ⟨h1,h2,h3,h4,h5⟩)
  ·exact .inr (.inr h)
 ·rintro (⟨h1,h2,h3,h4⟩|⟨h1,h2,h3,h4,h5⟩|h)
  ·rw [<- op A.x h3.1,<- op A.y h3.2] at h4;exact .inl ⟨h1,h2,h3,h4⟩
  ·rw [<- op C.x h3.1,<- op C.y h3.2] at h4;exact .inr (.inl ⟨h1,h2,h3,h4,h5⟩)
  ·exact .inr (.inr h)
theorem zJw (R:jM P T) {hp:jJ} {nx f:Nat} : ∀ (l:List Oper) (i:Nat) {env:Env} {a:Act} {w:World} {K:St->Prop},i+l.length<=f->(∀ o∈l,j0 o.op=true/\yT N o=true)->
 GA B N ⟨env,hp,nx⟩ a w->zAN T true ops l ⟨env,hp,nx⟩ K->∃ env' a' w',K ⟨env',hp,nx⟩/\GA B N ⟨env',hp,nx⟩ a' w'/\∀ (hp1 hp2:jJ) (A C:Flt),A.f=f->f<C.f->zAl (YB T ops hp hp1 hp2 A C) (yZ env') i l (yZ env)
 | [],i,env,a,w,K,_,_,h,hk=>⟨env,a,w,hk,h,fun _ _ _ _ _ _=>rfl⟩
 | o::l,i,env,a,w,K,hi,hl,h,hk=>by
   simp only [yA] at hi;obtain ⟨hc,ho⟩:=hl o (by simp);obtain ⟨v,env1,a1,w1,e1,k1,g1,y1⟩:=zCE R hc ho h (zN2 hk);obtain ⟨env',a',w',k2,g2,y2⟩:=zJw R (f:=f) l (i+1) (by omega) (fun o' h'=>hl o' (by simp [h'])) g1 k1;exact ⟨env',a',w',k2,g2,fun hp1 hp2 A C hA hC=>⟨v,.inr (.inr ⟨by omega,by omega,y1,fun hlt=>absurd hlt (by omega),fun hlt=>absurd hlt (by omega)⟩),by rw [<- e1];exact y2 hp1 hp2 A C hA hC⟩⟩
theorem zJ0 {oF:Oper} {d:Tmp} {o:Oper} {l:List Oper} (hw:zFg ops oF d (o::l)=true):j0 o.op=true/\(∀ t,some d=some t->t∉o.looksAt ops)/\(∀ t,some d=some t->o.dst≠some t)/\(∀ t,o.dst=some t->t∉oF.looksAt ops)/\zFg ops oF d l=true:=by
 simp only [zFg,zC,zbB] at hw;obtain ⟨⟨hc,hlk,hdst⟩,hw'⟩:=hw;refine ⟨hc,fun t e hm=> ?_,fun t e hd=> ?_,fun t hd hm=> ?_,hw'⟩
 ·cases e;have:(o.looksAt ops).contains d=true:=by simpa using hm
  rw [hlk] at this;cases this
 ·cases e;rw [hd] at hdst;simp only [zC,zbB] at hdst;rw [zbJ] at hdst;cases hdst.1
 ·rw [hd] at hdst;simp only [zC,zbB] at hdst;have:(oF.looksAt ops).contains t=true:=by simpa using hm
  rw [this] at hdst;cases hdst.2
theorem zQd (R:jM P T) {hp hp1:jJ} {nx f row f2:Nat} {oF:Oper} {d:Tmp} {x y:Operand} (hx:x∈oF.op.operands) (hy:y∈oF.op.operands) :
 ∀ (l:List Oper) (i:Nat) {env:Env} {a:Act} {w:World} {K:St->Prop},f<i->i+l.length<=f2->zFg ops oF d l=true->(∀ o∈l,yT N o=true)->
 GA B N ⟨env,hp,nx⟩ a w->zRv T row hp1 ops l ⟨env,hp,nx⟩ K->∃ env' a' w',K ⟨env',hp,nx⟩/\GA B N ⟨env',hp,nx⟩ a' w'/\(jK (yZ env') x=jK (yZ env) x/\jK (yZ env') y=jK (yZ env) y)/\
  ∀ (hp2:jJ) (A C:Flt),A.f=f->A.row=row->C.f=f2->zAl (YB T ops hp hp1 hp2 A C) (upd (yZ env') (some d) A.v) i l (upd (yZ env) (some d) A.v)
 | [],i,env,a,w,K,_,_,_,_,h,hk=>⟨env,a,w,hk,h,⟨rfl,rfl⟩,fun _ _ _ _ _ _=>rfl⟩
 | o ::l,i,env,a,w,K,hi,hi2,hw,hl,h,hk=>by
   simp only [yA] at hi2;obtain ⟨hc,hdl,hdd,hdF,hw'⟩:=zJ0 hw;simp only [zRv] at hk;split at hk
   case h_2=>exact hk.elim
   rename_i hfo;obtain ⟨hs1,hk⟩:=hk.out;obtain ⟨v,env1,a1,w1,e1,k1,g1,y1⟩:=zCE R hc (hl o (by simp)) h hk;split at k1
   case h_2=>exact k1.elim
   rename_i hfd;obtain ⟨env',a',w',k2,g2,⟨ex,ey⟩,y2⟩:=zQd R (f:=f) (f2:=f2) hx hy l (i+1) (by omega) (by omega) hw' (fun o' h'=>hl o' (by simp [h'])) g1 k1;refine ⟨env',a',w',k2,g2,⟨?_,?_⟩,fun hp2 A C hA hr hC=>⟨v,.inr (.inr ⟨by omega,by omega,?_,fun _=>⟨⟨fun t ht=> ?_,fun hne=> ?_⟩,?_⟩,fun hlt=>absurd hlt (by omega)⟩),?_⟩⟩
   ·rw [ex,e1];exact yW hdF x hx
   ·rw [ey,e1];exact yW hdF y hy
   ·unfold zSh;rw [zAj hdl,qF (yW hdl)];exact y1
   ·rw [upd_same fun t' e=>by cases e;rintro rfl;exact hdl _ rfl ht];simp only [zBt,zJ,zDK] at hfo;rw [hr];exact hfo t ht
   ·cases hd:o.dst with
    | none=>exact absurd hd hne
    | some t =>
      simp only [zCl,hd] at hfd;have:yZ env1 t=v:=by rw [e1,hd];simp [upd]
      rw [this] at hfd;rw [hr];exact hfd
   ·rw [qF (yW hdl) (hp:=hp1),qF (yW hdl) (hp:=hp)];rw [y4];exact hs1
   ·rw [zGF hdd,<- e1];exact y2 hp2 A C hA hr hC
theorem zRB (R:jM P T) {hp hp1 hp2:jJ} {nx f row f2 row2:Nat} {o1 o2:Oper} {d1 d2:Tmp} {x1 y1 x2 y2:Operand} (hx1:x1∈o1.op.operands) (hy1:y1∈o1.op.operands) (hx2:x2∈o2.op.operands) (hy2:y2∈o2.op.operands) :
 ∀ (l:List Oper) (i:Nat) {env:Env} {a:Act} {w:World} {K:St->Prop},f<i->f2<i->zFg ops o1 d1 l=true->zFg ops o2 d2 l=true->(∀ o∈l,yT N o=true)->
 GA B N ⟨env,hp,nx⟩ a w->zQy T row row2 hp1 hp2 ops l ⟨env,hp,nx⟩ K->∃ env' a' w',K ⟨env',hp,nx⟩/\GA B N ⟨env',hp,nx⟩ a' w'/\
  (jK (yZ env') x1=jK (yZ env) x1/\jK (yZ env') y1=jK (yZ env) y1)/\(jK (yZ env') x2=jK (yZ env) x2/\jK (yZ env') y2=jK (yZ env) y2)/\
  ∀ A C:Flt,A.f=f->A.row=row->C.f=f2->C.row=row2->zAl (YB T ops hp hp1 hp2 A C) (upd (upd (yZ env') (some d1) A.v) (some d2) C.v) i l (upd (upd (yZ env) (some d1) A.v) (some d2) C.v)
 | [],i,env,a,w,K,_,_,_,_,_,h,hk=>⟨env,a,w,hk,h,⟨rfl,rfl⟩,⟨rfl,rfl⟩,fun _ _ _ _ _ _=>rfl⟩
 | o ::l,i,env,a,w,K,hi,hi2,hw,hw2,hl,h,hk=>by
   obtain ⟨hc,hdl,hdd,hdF,hw'⟩:=zJ0 hw;obtain ⟨_,hdl2,hdd2,hdF2,hw2'⟩:=zJ0 hw2;simp only [zQy] at hk;split at hk
   case h_2=>exact hk.elim
   rename_i hfo;rw [zC] at hfo;obtain ⟨hfo,hfo2⟩:=hfo;obtain ⟨hs1,hk⟩:=hk.out;obtain ⟨hs2,hk⟩:=hk.out;obtain ⟨v,env1,a1,w1,e1,k1,g1,y1'⟩:=zCE R hc (hl o (by simp)) h hk;split at k1
   case h_2=>exact k1.elim
   rename_i hfd;rw [zC] at hfd;obtain ⟨hfd,hfd2⟩:=hfd;obtain ⟨env',a',w',k2,g2,⟨ex,ey⟩,⟨ex2,ey2⟩,yy⟩:=zRB R (f:=f) (f2:=f2) hx1 hy1 hx2 hy2 l (i+1) (by omega) (by omega) hw' hw2' (fun o' h'=>hl o' (by simp [h'])) g1 k1
   have two: ∀ {u1 u2:AV} {t:Tmp},t∈o.looksAt ops->upd (upd (yZ env) (some d1) u1) (some d2) u2 t=yZ env t:=fun {u1 u2 t} ht=>by
    rw [upd_same fun t' e=>by cases e;rintro rfl;exact hdl2 _ rfl ht,upd_same fun t' e=>by cases e;rintro rfl;exact hdl _ rfl ht]
   have free: ∀ {row:Nat},zBt ops row env o=true->∀ {u1 u2:AV},∀ t∈o.looksAt ops,(upd (upd (yZ env) (some d1) u1) (some d2) u2 t).free row=true:=fun {row} hf {u1 u2} t ht=>by
    rw [two ht];simp only [zBt,zJ,zDK] at hf;exact hf t ht
   have ac2: ∀ {u1 u2:AV} {h:jJ},jO T o.op (jK (upd (upd (yZ env) (some d1) u1) (some d2) u2)) h=jO T o.op (jK (yZ env)) h:=fun {u1 u2 h} =>by
    rw [qF (yW hdl2) (hp:=h),qF (yW hdl) (hp:=h)]
   have fdst: ∀ {row:Nat},zCl row env1 o=true->o.dst≠none->v.free row=true:=fun {row} hf hne=>by
    cases hd:o.dst with
    | none=>exact absurd hd hne
    | some t =>
      simp only [zCl,hd] at hf;have:yZ env1 t=v:=by rw [e1,hd];simp [upd]
      rw [this] at hf;exact hf
   refine ⟨env',a',w',k2,g2,⟨?_,?_⟩,⟨?_,?_⟩,fun A C hA hr hC hr2=>⟨v,.inr (.inr ⟨by omega,by omega,?_,fun _=>⟨⟨?_,?_⟩,?_⟩,fun _=>⟨⟨?_,?_⟩,?_⟩⟩),?_⟩⟩
   ·rw [ex,e1];exact yW hdF x1 hx1
   ·rw [ey,e1];exact yW hdF y1 hy1
   ·rw [ex2,e1];exact yW hdF2 x2 hx2
   ·rw [ey2,e1];exact yW hdF2 y2 hy2
   ·unfold zSh;rw [zAj hdl2,qF (yW hdl2),zAj hdl,qF (yW hdl)];exact y1'
   ·rw [hr];exact free hfo
   ·rw [hr];exact fdst hfd
   ·rw [ac2,ac2 (h:=hp),y4];exact hs1
   ·rw [hr2];exact free hfo2
   ·rw [hr2];exact fdst hfd2
   ·rw [ac2,ac2 (h:=hp),y4];exact hs2
   ·rw [zGF hdd2,zGF hdd,<- e1];exact yy A C hA hr hC hr2
structure FB (B:Base) (N:Nat) (ops:Array Oper) (k:Nat) (A C:Flt) (d1 d2:Tmp) (hp hp1 hp2:jJ) (nx:Nat) (listed:Array Bool) (e:Fr) (a:Act) (w:World):Prop where
 dn: ∀ j i,j<k->listed.getD j true=true->waits ops j i=true->listed.getD i true=true
 s0:listed.getD A.f true=false->∃ env,yZ env=e/\GA B N ⟨env,hp,nx⟩ a w
 s1:listed.getD A.f true=true->listed.getD C.f true=false->∃ env,(∀ t,yZ env t=if t=d1 then e t else (e t).mapAS (kill A.row))/\GA B N ⟨env,hp1,nx⟩ a w
 s2:listed.getD C.f true=true->∃ env,(∀ t,yZ env t=if t=d2 then e t else if t=d1 then (e t).mapAS (kill C.row) else ((e t).mapAS (kill A.row)).mapAS (kill C.row))/\GA B N ⟨env,hp2,nx⟩ a w
theorem zGD {env:Env} {e:Fr} {o:Oper} (hlook: ∀ t∈o.looksAt ops,yZ env t=e t):qD ops (yZ env) o=qD ops e o:=by
 unfold qD;cases hg:o.guard with
 | none=>rfl
 | some jw =>
   obtain ⟨j,want⟩:=jw;simp only;cases hs:qT ops j with
   | none=>rfl
   | some s =>
     simp only
     rw [hlook s (by
      simp only [Oper.looksAt,hg,yD];right;unfold qT at hs;cases ho:ops[j]? with
      | none=>simp [ho] at hs
      | some o'=>simp only [ho] at hs;simp [hs])]
theorem zFs {env:Env} {e:Fr} {o:Oper} (hlook: ∀ t∈o.looksAt ops,yZ env t=e t): ∀ x∈o.op.operands,y7 env x=jK e x:=fun x hx=>by
 cases x with
 | tmp t=>exact hlook t (zCb hx)
 | _=>rfl
theorem zK5 (R:jM P T) (hall: ∀ (i:Nat) (o:Oper),ops[i]? =some o->yT N o=true) {hp hp1 hp2:jJ} {nx k fuel:Nat} {A C:Flt} {d1 d2:Tmp} {o1 o2:Oper} {ef:Fr} {q1 q2:Option Prop} (lk:Array Bool)
 (hf1:A.f<C.f) (hf2:C.f<k) (ho1:ops[A.f]? =some o1) (hg1:o1.guard=none) (hd1:o1.dst=some d1) (hq1:Opt q1) (ho2:ops[C.f]? =some o2) (hg2:o2.guard=none) (hd2:o2.dst=some d2) (hq2:Opt q2)
 (hd12:d1≠d2) (hd1o:d1∉o2.looksAt ops)
 (hF1: ∀ env,y7 env A.x=A.xv->y7 env A.y=A.yv->zCG T o1 ⟨env,hp,nx⟩=some (none,q1,(⟨env.mapAS (kill A.row),hp1,nx⟩:St).put (some d1) A.v))
 (hF2: ∀ env,y7 env C.x=C.xv->y7 env C.y=C.yv->zCG T o2 ⟨env,hp1,nx⟩=some (none,q2,(⟨env.mapAS (kill C.row),hp2,nx⟩:St).put (some d2) C.v))
 (hneed1:zCT ops A.f [A.f]=true) (hneed2:zCT ops C.f [C.f]=true)
 (hwin1: ∀ i o,A.f<i->i<k->i≠C.f->ops[i]? =some o->d1∉o.looksAt ops/\o.dst≠some d1)
 (hwin2: ∀ i o,C.f<i->i<k->ops[i]? =some o->d2∉o.looksAt ops/\o.dst≠some d2)
 (htail: ∀ (a:Act) (w:World) (listed:Array Bool) (env:Env),(∀ i<k,listed.getD i true=true)->(∀ i,listed.getD i true=lk.getD i true)->listed.size=lk.size->(∀ t,yZ env t=if t=d2 then ef t else if t=d1 then (ef t).mapAS (kill C.row) else ((ef t).mapAS (kill A.row)).mapAS (kill C.row))->GA B N ⟨env,hp2,nx⟩ a w->wpAnyIn (FR r) n P .any ops Q fuel listed a w) :
 ∀ (m:Nat) (listed:Array Bool) (e:Fr) (a:Act) (w:World),zDa (YB T ops hp hp1 hp2 A C) ops k ef m listed e->(∀ i,k<=i->listed.getD i true=lk.getD i true)->(∀ i<k,lk.getD i true=true)->listed.size=lk.size->FB B N ops k A C d1 d2 hp hp1 hp2 nx listed e a w->
   wpAnyIn (FR r) n P .any ops Q (m+fuel) listed a w
 | 0,listed,e,a,w,h,hl1,hl2,hs,hr=>by
   obtain ⟨h1,rfl⟩:=h;rw [zD];obtain ⟨env,e1,g1⟩:=hr.s2 (h1 C.f hf2);refine htail a w listed env h1 (fun i=> ?_) hs e1 g1
   by_cases hi:i<k
   ·rw [h1 i hi,hl2 i hi]
   ·exact hl1 i (by omega)
 | m + 1,listed,e,a,w,h,hl1,hl2,hs,hr=>by
   rw [show m+1+fuel=(m+fuel)+1 by omega];refine ⟨fun h0=>(h.1 h0).elim,fun i hi=> ?_⟩;obtain ⟨hik,o,v,ho,hy,hk⟩:=h.2 i hi;have hun:=(mem_ready.1 hi).1;have hop:=hall i o ho
   have nxt: ∀ (a':Act) (w':World),FB B N ops k A C d1 d2 hp hp1 hp2 nx (listed.setIfInBounds i true) (upd e o.dst v) a' w'->wpAnyIn (FR r) n P .any ops Q (m+fuel) (listed.setIfInBounds i true) a' w':=fun a' w' hr' =>
    zK5 R hall lk hf1 hf2 ho1 hg1 hd1 hq1 ho2 hg2 hd2 hq2 hd12 hd1o hF1 hF2 hneed1 hneed2 hwin1 hwin2 htail m _ _ a' w' hk (fun j hj=>by rw [getD_set_ne true (by omega)];exact hl1 j hj) hl2 (by simpa using hs) hr'
   have dn': ∀ j i',j<k->(listed.setIfInBounds i true).getD j true=true->waits ops j i'=true->(listed.setIfInBounds i true).getD i' true=true:=fun j i' hj hl hw=>by
    have hres:listed.getD i' true=true:=by
     by_cases e:i=j
     ·subst e;exact zJ2 hi hw
     ·rw [getD_set_ne true e] at hl;exact hr.dn j i' hj hl hw
    by_cases e:i=i'
    ·subst e;exact jA
    ·rw [getD_set_ne true e];exact hres
   have all1:listed.getD A.f true=true->∀ j,j<A.f->listed.getD j true=true:=fun hl j hj=>zDO hr.dn A.f [A.f] hneed1 (fun j hj=>by
    obtain rfl:=zF.1 hj;exact ⟨by omega,hl⟩) (by omega) j hj
   have all2:listed.getD C.f true=true->∀ j,j<C.f->listed.getD j true=true:=fun hl j hj=>zDO hr.dn C.f [C.f] hneed2 (fun j hj=>by
    obtain rfl:=zF.1 hj;exact ⟨hf2,hl⟩) (by omega) j hj
   unfold wpOpIn;simp only [ho];rcases hy with ⟨rfl,rfl,_,hxv,hyv⟩|⟨rfl,rfl,⟨hxo,hyo⟩,⟨hxv,hyv⟩,hfr⟩|⟨hi1,hi2,hyc,hfree1,hfree2⟩
   ·-- the first append
    rw [ho1] at ho;cases ho;obtain ⟨env,e1,g1⟩:=hr.s0 hun;rw [if_pos (by simp [Region.wanted,hg1])];have he:=hF1 env (by rw [<- y4,e1];exact hxv) (by rw [<- y4,e1];exact hyv)
    have hc:listed.getD C.f true=false:=by
     cases hc:listed.getD C.f true with
     | false=>rfl
     | true=>rw [all2 hc A.f hf1] at hun;cases hun
    refine (zHD R g1 hop he).2 hq1 fun a' w' hga=>nxt a' w' ⟨dn',fun hl=> ?_,fun _ _=>⟨_,fun t=> ?_,hga⟩,fun hl=> ?_⟩
    ·rw [jA] at hl;cases hl
    ·show yZ ((d1,_)::env.mapAS (kill A.row)) t=_;rw [qR,hd1]
     by_cases e:t=d1
     ·subst e;simp [upd]
     ·rw [if_neg (Ne.symm e),if_neg e,j7 _ rfl,e1];simp only [upd];rw [if_neg (Ne.symm e)]
    ·rw [getD_set_ne true (by omega),hc] at hl;cases hl
   ·-- the second one
    rw [ho2] at ho;cases ho
    have hl1':listed.getD A.f true=true:=by
     have:(listed.setIfInBounds C.f true).getD A.f true=true:=zDO dn' C.f [C.f] hneed2 (fun j hj=>by
      obtain rfl:=zF.1 hj;exact ⟨hf2,jA⟩) (by omega) A.f hf1
     rwa [getD_set_ne true (by omega)] at this
    obtain ⟨env,e1,g1⟩:=hr.s1 hl1' hun;rw [if_pos (by simp [Region.wanted,hg2])]
    have hlook: ∀ t∈o2.looksAt ops,yZ env t=e t:=fun t ht=>by
     rw [e1,if_neg (by rintro rfl;exact hd1o ht),AV.kill_free (hfr t ht)]
    have he:=hF2 env (by rw [zFs hlook _ hxo];exact hxv) (by rw [zFs hlook _ hyo];exact hyv);refine (zHD R g1 hop he).2 hq2 fun a' w' hga=>nxt a' w' ⟨dn',fun hl=> ?_,fun _ hl=> ?_,fun _=>⟨_,fun t=> ?_,hga⟩⟩
    ·rw [getD_set_ne true (by omega),hl1'] at hl;cases hl
    ·rw [jA] at hl;cases hl
    ·show yZ ((d2,_)::env.mapAS (kill C.row)) t=_;rw [qR,hd2]
     by_cases e:t=d2
     ·subst e;simp [upd]
     ·rw [if_neg (Ne.symm e),if_neg e,j7 _ rfl,e1];simp only [upd];rw [if_neg (Ne.symm e)];split<;>rfl
   ·have keep1:(listed.setIfInBounds i true).getD A.f true=listed.getD A.f true:=getD_set_ne true hi1;have keep2:(listed.setIfInBounds i true).getD C.f true=listed.getD C.f true:=getD_set_ne true hi2;cases hla:listed.getD A.f true with
    | false =>
      have hc:listed.getD C.f true=false:=by
       cases hc:listed.getD C.f true with
       | false=>rfl
       | true=>rw [all2 hc A.f hf1] at hla;cases hla
      obtain ⟨env,e1,g1⟩:=hr.s0 hla
      have step: ∀ {a':Act} {w':World} {u:AV},GA B N ((⟨env,hp,nx⟩:St).put o.dst u) a' w'->u=v->FB B N ops k A C d1 d2 hp hp1 hp2 nx (listed.setIfInBounds i true) (upd e o.dst v) a' w':=fun {a' w' u} hga hu=>by
       subst hu;obtain ⟨env',e2,e3⟩:=zAK env hp nx o.dst u;rw [e2] at hga;exact ⟨dn',fun _=>⟨env',by rw [e3,e1],hga⟩,fun hl=>(by rw [keep1,hla] at hl;cases hl),fun hl=>by rw [keep2,hc] at hl;cases hl⟩
      rcases hyc with ⟨hw,p,q',hc,hq'⟩|⟨hw,rfl⟩
      ·rw [if_pos (jT hw e1 g1)];rw [<- e1,y4] at hc;exact (zBw R g1 hop hc).2 hq' fun a' w' hga=>nxt a' w' (step hga rfl)
      ·rw [if_neg (by rw [jT hw e1 g1];simp)];exact ⟨fun f _=>trivial,nxt _ _ (step (zBG g1 hop) rfl)⟩
    | true =>
      have hai:A.f<i:=by
       rcases Nat.lt_trichotomy i A.f with hlt|heq|hgt
       ·rw [all1 hla i hlt] at hun;cases hun
       ·exact absurd heq hi1
       ·exact hgt
      obtain ⟨⟨hfa,hfa2⟩,hac1⟩:=hfree1 hai;obtain ⟨hda,hda2⟩:=hwin1 i o hai hik hi2 ho;cases hlc:listed.getD C.f true with
      | false =>
        obtain ⟨env,e1,g1⟩:=hr.s1 hla hlc
        have hlook: ∀ t∈o.looksAt ops,yZ env t=e t:=fun t ht=>by
         rw [e1,if_neg (by rintro rfl;exact hda ht),AV.kill_free (hfa t ht)]
        have step: ∀ {a':Act} {w':World} {u:AV},GA B N ((⟨env,hp1,nx⟩:St).put o.dst u) a' w'->u=v->FB B N ops k A C d1 d2 hp hp1 hp2 nx (listed.setIfInBounds i true) (upd e o.dst v) a' w':=fun {a' w' u} hga hu=>by
         subst hu;obtain ⟨env',e2,e3⟩:=zAK env hp1 nx o.dst u;rw [e2] at hga;refine ⟨dn',fun hl=>(by rw [keep1,hla] at hl;cases hl),fun _ _=>⟨env',fun t=> ?_,hga⟩,fun hl=>(by rw [keep2,hlc] at hl;cases hl)⟩;rw [e3];cases hd:o.dst with
         | none=>exact e1 t
         | some d' =>
           simp only [upd];have hne:d'≠d1:=fun e=>hda2 (by rw [hd,e])
           by_cases e:d'=t
           ·subst e;rw [if_pos rfl,if_neg hne,if_pos rfl,AV.kill_free (hfa2 (by rw [hd];simp))]
           ·rw [if_neg e,if_neg e];exact e1 t
        rcases hyc with ⟨hw,p,q',hc,hq'⟩|⟨hw,rfl⟩
        ·rw [if_pos (jT ((zGD hlook).trans hw) rfl g1)]
         have hc':jO T o.op (y7 env) hp1=some (p,q',v):=by
          rw [qF (zFs hlook),hac1];exact hc
         exact (zBw R g1 hop hc').2 hq' fun a' w' hga=>nxt a' w' (step hga rfl)
        ·rw [if_neg (by rw [jT ((zGD hlook).trans hw) rfl g1];simp)];exact ⟨fun f _=>trivial,nxt _ _ (step (zBG g1 hop) rfl)⟩
      | true =>
        have hci:C.f<i:=by
         rcases Nat.lt_trichotomy i C.f with hlt|heq|hgt
         ·rw [all2 hlc i hlt] at hun;cases hun
         ·exact absurd heq hi2
         ·exact hgt
        obtain ⟨⟨hfc,hfc2⟩,hac2⟩:=hfree2 hci;obtain ⟨hdc,hdc2⟩:=hwin2 i o hci hik ho;obtain ⟨env,e1,g1⟩:=hr.s2 hlc
        have hlook: ∀ t∈o.looksAt ops,yZ env t=e t:=fun t ht=>by
         rw [e1,if_neg (by rintro rfl;exact hdc ht),if_neg (by rintro rfl;exact hda ht),AV.kill_free (hfa t ht),AV.kill_free (hfc t ht)]
        have step: ∀ {a':Act} {w':World} {u:AV},GA B N ((⟨env,hp2,nx⟩:St).put o.dst u) a' w'->u=v->FB B N ops k A C d1 d2 hp hp1 hp2 nx (listed.setIfInBounds i true) (upd e o.dst v) a' w':=fun {a' w' u} hga hu=>by
         subst hu;obtain ⟨env',e2,e3⟩:=zAK env hp2 nx o.dst u;rw [e2] at hga;refine ⟨dn',fun hl=>(by rw [keep1,hla] at hl;cases hl),fun _ hl=>(by rw [keep2,hlc] at hl;cases hl),fun _=>⟨env',fun t=> ?_,hga⟩⟩;rw [e3];cases hd:o.dst with
         | none=>exact e1 t
         | some d' =>
           simp only [upd];have hne:d'≠d1:=fun e=>hda2 (by rw [hd,e]);have hne2:d'≠d2:=fun e=>hdc2 (by rw [hd,e])
           by_cases e:d'=t
           ·subst e;rw [if_pos rfl,if_neg hne2,if_neg hne,if_pos rfl,AV.kill_free (hfa2 (by rw [hd];simp)),AV.kill_free (hfc2 (by rw [hd];simp))]
           ·rw [if_neg e,if_neg e];exact e1 t
        rcases hyc with ⟨hw,p,q',hc,hq'⟩|⟨hw,rfl⟩
        ·rw [if_pos (jT ((zGD hlook).trans hw) rfl g1)]
         have hc':jO T o.op (y7 env) hp2=some (p,q',v):=by
          rw [qF (zFs hlook),hac2];exact hc
         exact (zBw R g1 hop hc').2 hq' fun a' w' hga=>nxt a' w' (step hga rfl)
        ·rw [if_neg (by rw [jT ((zGD hlook).trans hw) rfl g1];simp)];exact ⟨fun f _=>trivial,nxt _ _ (step (zBG g1 hop) rfl)⟩
end
end Go.Vm
namespace Go.Vm
open Go.RowKit
section
variable {P:Program} {B:Base} {w:World} {I:Sig} {M:yR} {st:St} {T:Tab} {N:Nat} {a:Act} {r:Option Nat} {n:Nat} {ops:Array Oper} {Q:Exit->Act->World->Prop}
theorem zNH {a i:Nat} {o:Oper} (ho:ops[a]? =some o) (h:zSQ i o=true):waits ops a i=true:=by
 unfold zSQ at h;obtain ⟨e,he,hb⟩:=zbz.1 h;unfold waits;rw [ho];refine Array.any_eq_true'.2 ⟨e,by simpa using he,?_⟩;rw [zC] at hb;have e2:e.on=i:=zH hb.2
 have e1:Region.binds .any e=true:=by
  unfold Region.binds;have:=hb.1;split at this
  ·cases this
  ·cases this
  ·rename_i h1 h2;split
   ·rename_i d k;exact absurd k (h1 d)
   ·rename_i d k;exact absurd k (h2 d)
   ·rfl
 rw [e1,e2];simp
theorem zHk {listed:Array Bool} (h:Dn ops listed) {i:Nat} : ∀ (n:Nat) (acc:List Nat),(∀ a∈acc,∀ m,waits ops a m=true->listed.getD m false=true)->twB ops i n acc=true->listed.getD i false=true
 | 0,_,_,ht=>by cases ht
 | n + 1,acc,ha,ht=>by
   simp only [twB] at ht;split at ht
   ·rename_i hany;obtain ⟨a,haa,hw⟩:=zbz.1 hany
    have hl:listed.getD (i+n) false=true:=by
     cases ho:ops[a]? with
     | none=>rw [ho] at hw;cases hw
     | some o=>rw [ho] at hw;exact ha a haa _ (zNH ho hw)
    rw [zbA] at ht;rcases ht with e|ht
    ·have:=zH e;subst this;exact hl
    ·exact zHk h n _ (fun b hb m hm=>by
      rcases zT.1 hb with rfl|hb
      ·exact h _ m hl hm
      ·exact ha b hb m hm) ht
   ·exact zHk h n acc ha ht
def YS (T:Tab) (ops:Array Oper) (hp hpF:jJ) (f:Nat) (x y:Operand) (xv yv:AV) (i:Nat) (o:Oper) (v:AV) (e:Fr):Prop :=
 (i=f/\(x∈o.op.operands/\y∈o.op.operands)/\jK e x=xv/\jK e y=yv)\/
 (i≠f/\zSh T ops hp o v e/\(zBQ ops f i=false->jO T o.op (jK e) hpF=jO T o.op (jK e) hp))
theorem z1X {hp hpF:jJ} {f:Nat} {x y:Operand} {xv yv:AV} :zOy (YS T ops hp hpF f x y xv yv) ops:=by
 intro i o v u e d h;unfold YS zSh;rw [zAj h,qF (yW h) (hp:=hp),qF (yW h) (hp:=hpF)];have op: ∀ x∈o.op.operands,jK (upd e d u) x=jK e x:=yW h;constructor
 ·rintro (⟨h1,h3,h4⟩|h)
  ·rw [op x h3.1,op y h3.2] at h4;exact .inl ⟨h1,h3,h4⟩
  ·exact .inr h
 ·rintro (⟨h1,h3,h4⟩|h)
  ·rw [<- op x h3.1,<- op y h3.2] at h4;exact .inl ⟨h1,h3,h4⟩
  ·exact .inr h
theorem zNt (R:jM P T) {hp hpF:jJ} {nx f:Nat} : ∀ (l:List Oper) (i:Nat) {env:Env} {a:Act} {w:World} {K:St->Prop},i+l.length<=f->(∀ o∈l,j0 o.op=true/\yT N o=true)->
 GA B N ⟨env,hp,nx⟩ a w->zJd T hpF ops f i l ⟨env,hp,nx⟩ K->∃ env' a' w',K ⟨env',hp,nx⟩/\GA B N ⟨env',hp,nx⟩ a' w'/\∀ x y xv yv,zAl (YS T ops hp hpF f x y xv yv) (yZ env') i l (yZ env)
 | [],i,env,a,w,K,_,_,h,hk=>⟨env,a,w,hk,h,fun _ _ _ _=>rfl⟩
 | o ::l,i,env,a,w,K,hi,hl,h,hk=>by
   simp only [yA] at hi;obtain ⟨hc,ho⟩:=hl o (by simp)
   have key:(zBQ ops f i=false->jO T o.op (y7 env) hpF=jO T o.op (y7 env) hp)/\zAN T true ops [o] ⟨env,hp,nx⟩ fun st'=>zJd T hpF ops f (i+1) l st' K:=by
    simp only [zJd] at hk;split at hk
    ·rename_i ht;exact ⟨fun e=>(by rw [ht] at e;cases e),hk⟩
    ·obtain ⟨h1,h2⟩:=hk.out;exact ⟨fun _=>h1,h2⟩
   obtain ⟨v,env1,a1,w1,e1,k1,g1,y1⟩:=zCE R hc ho h key.2;obtain ⟨env',a',w',k2,g2,y2⟩:=zNt R (f:=f) l (i+1) (by omega) (fun o' h'=>hl o' (by simp [h'])) g1 k1;exact ⟨env',a',w',k2,g2,fun x y xv yv=>⟨v,.inr ⟨by omega,y1,fun ht=>by rw [y4];exact key.1 ht⟩,by rw [<- e1];exact y2 x y xv yv⟩⟩
theorem zKg (R:jM P T) {hp hpF:jJ} {nx f:Nat} : ∀ (l:List Oper) (i:Nat) {env:Env} {a:Act} {w:World} {K:St->Prop},f<i->(∀ o∈l,j0 o.op=true/\yT N o=true)->
 GA B N ⟨env,hp,nx⟩ a w->zJd T hpF ops f i l ⟨env,hp,nx⟩ K->∃ env' a' w',K ⟨env',hp,nx⟩/\GA B N ⟨env',hp,nx⟩ a' w'/\∀ x y xv yv,zAl (YS T ops hp hpF f x y xv yv) (yZ env') i l (yZ env)
 | [],i,env,a,w,K,_,_,h,hk=>⟨env,a,w,hk,h,fun _ _ _ _=>rfl⟩
 | o ::l,i,env,a,w,K,hi,hl,h,hk=>by
   obtain ⟨hc,ho⟩:=hl o (by simp)
   have key:(zBQ ops f i=false->jO T o.op (y7 env) hpF=jO T o.op (y7 env) hp)/\zAN T true ops [o] ⟨env,hp,nx⟩ fun st'=>zJd T hpF ops f (i+1) l st' K:=by
    simp only [zJd] at hk;split at hk
    ·rename_i ht;exact ⟨fun e=>(by rw [ht] at e;cases e),hk⟩
    ·obtain ⟨h1,h2⟩:=hk.out;exact ⟨fun _=>h1,h2⟩
   obtain ⟨v,env1,a1,w1,e1,k1,g1,y1⟩:=zCE R hc ho h key.2;obtain ⟨env',a',w',k2,g2,y2⟩:=zKg R (f:=f) l (i+1) (by omega) (fun o' h'=>hl o' (by simp [h'])) g1 k1;exact ⟨env',a',w',k2,g2,fun x y xv yv=>⟨v,.inr ⟨by omega,y1,fun ht=>by rw [y4];exact key.1 ht⟩,by rw [<- e1];exact y2 x y xv yv⟩⟩
structure FS (B:Base) (N:Nat) (ops:Array Oper) (f:Nat) (hp hpF:jJ) (nx:Nat) (listed:Array Bool) (e:Fr) (a:Act) (w:World):Prop where
 dn:Dn ops listed
 pre:listed.getD f true=false->∃ env,yZ env=e/\GA B N ⟨env,hp,nx⟩ a w
 post:listed.getD f true=true->∃ env,yZ env=e/\GA B N ⟨env,hpF,nx⟩ a w
theorem zO6 (R:jM P T) (hall: ∀ (i:Nat) (o:Oper),ops[i]? =some o->yT N o=true) {hp hpF:jJ} {nx k f fuel:Nat} {oF:Oper} {x y:Operand} {xv yv:AV} {ef:Fr} (lk:Array Bool)
 (hfk:f<k) (hks:k<=ops.size) (hoF:ops[f]? =some oF) (hgF:oF.guard=none) (hdF:oF.dst=none)
 (hF: ∀ env,y7 env x=xv->y7 env y=yv->zCG T oF ⟨env,hp,nx⟩=some (none,none,⟨env,hpF,nx⟩))
 (htail: ∀ (a:Act) (w:World) (listed:Array Bool) (env:Env),(∀ i<k,listed.getD i true=true)->(∀ i,listed.getD i true=lk.getD i true)->listed.size=lk.size->yZ env=ef->GA B N ⟨env,hpF,nx⟩ a w->wpAnyIn (FR r) n P .any ops Q fuel listed a w) :
 ∀ (m:Nat) (listed:Array Bool) (e:Fr) (a:Act) (w:World),zDa (YS T ops hp hpF f x y xv yv) ops k ef m listed e->(∀ i,k<=i->listed.getD i true=lk.getD i true)->(∀ i<k,lk.getD i true=true)->listed.size=lk.size->listed.size=ops.size->FS B N ops f hp hpF nx listed e a w->
   wpAnyIn (FR r) n P .any ops Q (m+fuel) listed a w
 | 0,listed,e,a,w,h,hl1,hl2,hs,_,hr=>by
   obtain ⟨h1,rfl⟩:=h;rw [zD];obtain ⟨env,e1,g1⟩:=hr.post (h1 f hfk);refine htail a w listed env h1 (fun i=> ?_) hs e1 g1
   by_cases hi:i<k
   ·rw [h1 i hi,hl2 i hi]
   ·exact hl1 i (by omega)
 | m + 1,listed,e,a,w,h,hl1,hl2,hs,hsz,hr=>by
   rw [show m+1+fuel=(m+fuel)+1 by omega];refine ⟨fun h0=>(h.1 h0).elim,fun i hi=> ?_⟩;obtain ⟨hik,o,v,ho,hy,hk⟩:=h.2 i hi;have hun:=(mem_ready.1 hi).1;have hop:=hall i o ho
   have nxt: ∀ (a':Act) (w':World),FS B N ops f hp hpF nx (listed.setIfInBounds i true) (upd e o.dst v) a' w'->wpAnyIn (FR r) n P .any ops Q (m+fuel) (listed.setIfInBounds i true) a' w':=fun a' w' hr' =>
    zO6 R hall lk hfk hks hoF hgF hdF hF htail m _ _ a' w' hk (fun j hj=>by rw [getD_set_ne true (by omega)];exact hl1 j hj) hl2 (by simpa using hs) (by simpa using hsz) hr'
   have dn':Dn ops (listed.setIfInBounds i true):=hr.dn.set hi;unfold wpOpIn;simp only [ho];rcases hy with ⟨rfl,_,hxv,hyv⟩|⟨hif,hyc,hloose⟩
   ·-- the store
    rw [hoF] at ho;cases ho;obtain ⟨env,e1,g1⟩:=hr.pre hun;rw [if_pos (by simp [Region.wanted,hgF])];have he:=hF env (by rw [<- y4,e1];exact hxv) (by rw [<- y4,e1];exact hyv);refine (zHD R g1 hop he).2 trivial fun a' w' hga=>nxt a' w' ⟨dn',fun hl=> ?_,fun _=>⟨env,?_,hga⟩⟩
    ·rw [jA] at hl;cases hl
    ·rw [hdF];exact e1
   ·have keepF:(listed.setIfInBounds i true).getD f true=listed.getD f true:=getD_set_ne true hif;cases hlf:listed.getD f true with
    | false =>
      obtain ⟨env,e1,g1⟩:=hr.pre hlf
      have step: ∀ {a':Act} {w':World} {u:AV},GA B N ((⟨env,hp,nx⟩:St).put o.dst u) a' w'->u=v->FS B N ops f hp hpF nx (listed.setIfInBounds i true) (upd e o.dst v) a' w':=fun {a' w' u} hga hu=>by
       subst hu;obtain ⟨env',e2,e3⟩:=zAK env hp nx o.dst u;rw [e2] at hga;exact ⟨dn',fun _=>⟨env',by rw [e3,e1],hga⟩,fun hl=>by rw [keepF,hlf] at hl;cases hl⟩
      rcases hyc with ⟨hw,p,q',hc,hq'⟩|⟨hw,rfl⟩
      ·rw [if_pos (jT hw e1 g1)];rw [<- e1,y4] at hc;exact (zBw R g1 hop hc).2 hq' fun a' w' hga=>nxt a' w' (step hga rfl)
      ·rw [if_neg (by rw [jT hw e1 g1];simp)];exact ⟨fun f _=>trivial,nxt _ _ (step (zBG g1 hop) rfl)⟩
    | true =>
      obtain ⟨env,e1,g1⟩:=hr.post hlf
      have htw:zBQ ops f i=false:=by
       cases ht:zBQ ops f i with
       | false=>rfl
       | true =>
         have hlf':listed.getD f false=true:=by
          have hlt:f<listed.size:=by omega
          rw [zL,Array.getElem?_eq_getElem hlt] at hlf ⊢;exact hlf
         have:=zHk hr.dn _ _ (fun a ha m hm=>by
          obtain rfl:=zF.1 ha
          exact hr.dn _ _ hlf' hm) ht
         rw [zCS this] at hun;cases hun
      have hac:=hloose htw
      have step: ∀ {a':Act} {w':World} {u:AV},GA B N ((⟨env,hpF,nx⟩:St).put o.dst u) a' w'->u=v->FS B N ops f hp hpF nx (listed.setIfInBounds i true) (upd e o.dst v) a' w':=fun {a' w' u} hga hu=>by
       subst hu;obtain ⟨env',e2,e3⟩:=zAK env hpF nx o.dst u;rw [e2] at hga;exact ⟨dn',fun hl=>(by rw [keepF,hlf] at hl;cases hl),fun _=>⟨env',by rw [e3,e1],hga⟩⟩
      rcases hyc with ⟨hw,p,q',hc,hq'⟩|⟨hw,rfl⟩
      ·rw [if_pos (jT hw e1 g1)];rw [<- hac,<- e1,y4] at hc;exact (zBw R g1 hop hc).2 hq' fun a' w' hga=>nxt a' w' (step hga rfl)
      ·rw [if_neg (by rw [jT hw e1 g1];simp)];exact ⟨fun f _=>trivial,nxt _ _ (step (zBG g1 hop) rfl)⟩
end
end Go.Vm
namespace Go.Vm
open Go.RowKit
section
variable {P:Program} {B:Base} {w:World} {I:Sig} {M:yR} {st:St} {T:Tab} {N:Nat} {a:Act} {r:Option Nat} {n:Nat} {ops:Array Oper} {Q:Exit->Act->World->Prop}
def YLo (T:Tab) (ops:Array Oper) (hp:jJ) (f row:Nat) (x y:Operand) (xv yv vF:AV) (i:Nat) (o:Oper) (v:AV) (e:Fr):Prop :=
 (i=f/\v=vF/\(x∈o.op.operands/\y∈o.op.operands)/\jK e x=xv/\jK e y=yv)\/
 (i≠f/\((qD ops e o=some true/\∃ p q,jO T o.op (jK e) hp=some (p,q,v)/\Opt q)\/(qD ops e o=some false/\v= .undef))/\(zBQ ops f i=false->(∀ t∈o.looksAt ops,(e t).free row=true)/\(o.dst≠none->v.free row=true)))
theorem zVk {hp:jJ} {f row:Nat} {x y:Operand} {xv yv vF:AV} :zOy (YLo T ops hp f row x y xv yv vF) ops:=by
 intro i o v u e d h;unfold YLo;rw [zAj h,qF (yW h)];have: ∀ t∈o.looksAt ops,upd e d u t=e t:=fun t ht=>upd_same fun t' hd e=>h t' hd (e▸ht);constructor
 ·rintro (⟨h1,h2,h3,h4⟩|⟨h1,h2,h3⟩)
  ·rw [yW h x h3.1,yW h y h3.2] at h4;exact .inl ⟨h1,h2,h3,h4⟩
  ·exact .inr ⟨h1,h2,fun hlt=>⟨fun t ht=>by rw [<- this t ht];exact (h3 hlt).1 t ht,(h3 hlt).2⟩⟩
 ·rintro (⟨h1,h2,h3,h4⟩|⟨h1,h2,h3⟩)
  ·rw [<- yW h x h3.1,<- yW h y h3.2] at h4;exact .inl ⟨h1,h2,h3,h4⟩
  ·exact .inr ⟨h1,h2,fun hlt=>⟨fun t ht=>by rw [this t ht];exact (h3 hlt).1 t ht,(h3 hlt).2⟩⟩
theorem zG5 (R:jM P T) {hp:jJ} {nx f row:Nat} : ∀ (l:List Oper) (i:Nat) {env:Env} {a:Act} {w:World} {K:St->Prop},i+l.length<=f->(∀ o∈l,j0 o.op=true/\yT N o=true)->
 GA B N ⟨env,hp,nx⟩ a w->zXc T row ops f i l ⟨env,hp,nx⟩ K->∃ env' a' w',K ⟨env',hp,nx⟩/\GA B N ⟨env',hp,nx⟩ a' w'/\∀ x y xv yv vF,zAl (YLo T ops hp f row x y xv yv vF) (yZ env') i l (yZ env)
 | [],i,env,a,w,K,_,_,h,hk=>⟨env,a,w,hk,h,fun _ _ _ _ _=>rfl⟩
 | o ::l,i,env,a,w,K,hi,hl,h,hk=>by
   simp only [yA] at hi;obtain ⟨hc,ho⟩:=hl o (by simp);simp only [zXc] at hk;split at hk
   ·rename_i ht;obtain ⟨v,env1,a1,w1,e1,k1,g1,y1⟩:=zCE R hc ho h hk;obtain ⟨env',a',w',k2,g2,y2⟩:=zG5 R (f:=f) l (i+1) (by omega) (fun o' h'=>hl o' (by simp [h'])) g1 k1;exact ⟨env',a',w',k2,g2,fun x y xv yv vF=>⟨v,.inr ⟨by omega,y1,fun hf=>(by rw [ht] at hf;cases hf)⟩,by rw [<- e1];exact y2 x y xv yv vF⟩⟩
   ·split at hk
    case h_2=>exact hk.elim
    rename_i hfo;obtain ⟨v,env1,a1,w1,e1,k1,g1,y1⟩:=zCE R hc ho h hk;split at k1
    case h_2=>exact k1.elim
    rename_i hfd;obtain ⟨env',a',w',k2,g2,y2⟩:=zG5 R (f:=f) l (i+1) (by omega) (fun o' h'=>hl o' (by simp [h'])) g1 k1;refine ⟨env',a',w',k2,g2,fun x y xv yv vF=>⟨v,.inr ⟨by omega,y1,fun _=>⟨fun t ht=> ?_,fun hne=> ?_⟩⟩,by rw [<- e1];exact y2 x y xv yv vF⟩⟩
    ·simp only [zBt,zJ,zDK] at hfo;exact hfo t ht
    ·cases hd:o.dst with
     | none=>exact absurd hd hne
     | some t =>
       simp only [zCl,hd] at hfd;have:yZ env1 t=v:=by rw [e1,hd];simp [upd]
       rw [this] at hfd;exact hfd
structure FLo (B:Base) (N:Nat) (ops:Array Oper) (f row:Nat) (d:Tmp) (hp:jJ) (nx:Nat) (hpF:jJ) (listed:Array Bool) (e:Fr) (a:Act) (w:World):Prop where
 dn:Dn ops listed
 pre:listed.getD f true=false->∃ env,yZ env=e/\GA B N ⟨env,hp,nx⟩ a w
 post:listed.getD f true=true->∃ env,(∀ t,yZ env t=if t=d then e t else (e t).mapAS (kill row))/\GA B N ⟨env,hpF,nx⟩ a w
theorem zO0 (R:jM P T) (hall: ∀ (i:Nat) (o:Oper),ops[i]? =some o->yT N o=true) {hp hpF:jJ} {nx k f row fuel:Nat} {d:Tmp} {oF:Oper} {x y:Operand} {xv yv vF:AV} {ef:Fr} {q:Option Prop} (lk:Array Bool)
 (hfk:f<k) (hks:k<=ops.size) (hoF:ops[f]? =some oF) (hgF:oF.guard=none) (hdF:oF.dst=some d) (hq:Opt q)
 (hF: ∀ env,y7 env x=xv->y7 env y=yv->zCG T oF ⟨env,hp,nx⟩=some (none,q,(⟨env.mapAS (kill row),hpF,nx⟩:St).put (some d) vF))
 (hsame: ∀ id,id≠row->hget hpF id=hget hp id) (hflat:zGW (fun i=> !Nat.beq i row) hp)
 (hwin: ∀ i o,i≠f->zBQ ops f i=false->i<k->ops[i]? =some o->d∉o.looksAt ops/\o.dst≠some d)
 (htail: ∀ (a:Act) (w:World) (listed:Array Bool) (env:Env),(∀ i<k,listed.getD i true=true)->(∀ i,listed.getD i true=lk.getD i true)->listed.size=lk.size->(∀ t,yZ env t=if t=d then ef t else (ef t).mapAS (kill row))->GA B N ⟨env,hpF,nx⟩ a w->wpAnyIn (FR r) n P .any ops Q fuel listed a w) :
 ∀ (m:Nat) (listed:Array Bool) (e:Fr) (a:Act) (w:World),zDa (YLo T ops hp f row x y xv yv vF) ops k ef m listed e->(∀ i,k<=i->listed.getD i true=lk.getD i true)->(∀ i<k,lk.getD i true=true)->listed.size=lk.size->listed.size=ops.size->FLo B N ops f row d hp nx hpF listed e a w->
   wpAnyIn (FR r) n P .any ops Q (m+fuel) listed a w
 | 0,listed,e,a,w,h,hl1,hl2,hs,_,hr=>by
   obtain ⟨h1,rfl⟩:=h;rw [zD];obtain ⟨env,e1,g1⟩:=hr.post (h1 f hfk);refine htail a w listed env h1 (fun i=> ?_) hs e1 g1
   by_cases hi:i<k
   ·rw [h1 i hi,hl2 i hi]
   ·exact hl1 i (by omega)
 | m + 1,listed,e,a,w,h,hl1,hl2,hs,hsz,hr=>by
   rw [show m+1+fuel=(m+fuel)+1 by omega];refine ⟨fun h0=>(h.1 h0).elim,fun i hi=> ?_⟩;obtain ⟨hik,o,v,ho,hy,hk⟩:=h.2 i hi;have hun:=(mem_ready.1 hi).1;have hop:=hall i o ho
   have nxt: ∀ (a':Act) (w':World),FLo B N ops f row d hp nx hpF (listed.setIfInBounds i true) (upd e o.dst v) a' w'->wpAnyIn (FR r) n P .any ops Q (m+fuel) (listed.setIfInBounds i true) a' w':=fun a' w' hr' =>
    zO0 R hall lk hfk hks hoF hgF hdF hq hF hsame hflat hwin htail m _ _ a' w' hk (fun j hj=>by rw [getD_set_ne true (by omega)];exact hl1 j hj) hl2 (by simpa using hs) (by simpa using hsz) hr'
   have dn':Dn ops (listed.setIfInBounds i true):=hr.dn.set hi;unfold wpOpIn;simp only [ho];rcases hy with ⟨rfl,rfl,_,hxv,hyv⟩|⟨hif,hyc,hfree⟩
   ·-- the append
    rw [hoF] at ho;cases ho;obtain ⟨env,e1,g1⟩:=hr.pre hun;rw [if_pos (by simp [Region.wanted,hgF])];have he:=hF env (by rw [<- y4,e1];exact hxv) (by rw [<- y4,e1];exact hyv);refine (zHD R g1 hop he).2 hq fun a' w' hga=>nxt a' w' ⟨dn',fun hl=> ?_,fun _=>⟨_,fun t=> ?_,hga⟩⟩
    ·rw [jA] at hl;cases hl
    ·show yZ ((d,v)::env.mapAS (kill row)) t=_;rw [qR,hdF]
     by_cases e:t=d
     ·subst e;simp [upd]
     ·rw [if_neg (Ne.symm e),if_neg e,j7 _ rfl,e1];simp only [upd];rw [if_neg (Ne.symm e)]
   ·have keepF:(listed.setIfInBounds i true).getD f true=listed.getD f true:=getD_set_ne true hif;cases hlf:listed.getD f true with
    | false =>
      obtain ⟨env,e1,g1⟩:=hr.pre hlf
      have step: ∀ {a':Act} {w':World} {u:AV},GA B N ((⟨env,hp,nx⟩:St).put o.dst u) a' w'->u=v->FLo B N ops f row d hp nx hpF (listed.setIfInBounds i true) (upd e o.dst v) a' w':=fun {a' w' u} hga hu=>by
       subst hu;obtain ⟨env',e2,e3⟩:=zAK env hp nx o.dst u;rw [e2] at hga;exact ⟨dn',fun _=>⟨env',by rw [e3,e1],hga⟩,fun hl=>by rw [keepF,hlf] at hl;cases hl⟩
      rcases hyc with ⟨hw,p,q',hc,hq'⟩|⟨hw,rfl⟩
      ·rw [if_pos (jT hw e1 g1)];rw [<- e1,y4] at hc;exact (zBw R g1 hop hc).2 hq' fun a' w' hga=>nxt a' w' (step hga rfl)
      ·rw [if_neg (by rw [jT hw e1 g1];simp)];exact ⟨fun f _=>trivial,nxt _ _ (step (zBG g1 hop) rfl)⟩
    | true =>
      obtain ⟨env,e1,g1⟩:=hr.post hlf
      have htw:zBQ ops f i=false:=by
       cases ht:zBQ ops f i with
       | false=>rfl
       | true =>
         have hlf':listed.getD f false=true:=by
          have hlt:f<listed.size:=by omega
          rw [zL,Array.getElem?_eq_getElem hlt] at hlf ⊢;exact hlf
         have:=zHk hr.dn _ _ (fun a ha m hm=>by
          obtain rfl:=zF.1 ha
          exact hr.dn _ _ hlf' hm) ht
         rw [zCS this] at hun;cases hun
      obtain ⟨hf1,hf2⟩:=hfree htw;obtain ⟨hd1,hd2⟩:=hwin i o hif htw hik ho
      have hlook: ∀ t∈o.looksAt ops,yZ env t=e t:=fun t ht=>by
       rw [e1,if_neg (by rintro rfl;exact hd1 ht),AV.kill_free (hf1 t ht)]
      have hopnd: ∀ x∈o.op.operands,y7 env x=jK e x:=fun x hx=>by
       cases x with
       | tmp t=>exact hlook t (zCb hx)
       | _=>rfl
      have hwant: ∀ {b},qD ops e o=some b->qD ops (yZ env) o=some b:=fun {b} hw=>by
       rw [<- hw];unfold qD;cases hg:o.guard with
       | none=>rfl
       | some jw =>
         obtain ⟨j,want⟩:=jw;simp only;cases hs:qT ops j with
         | none=>rfl
         | some s =>
           simp only
           rw [hlook s (by
            simp only [Oper.looksAt,hg,yD];right;unfold qT at hs;cases ho:ops[j]? with
            | none=>simp [ho] at hs
            | some o'=>simp only [ho] at hs;simp [hs])]
      have step: ∀ {a':Act} {w':World} {u:AV},GA B N ((⟨env,hpF,nx⟩:St).put o.dst u) a' w'->u=v->FLo B N ops f row d hp nx hpF (listed.setIfInBounds i true) (upd e o.dst v) a' w':=fun {a' w' u} hga hu=>by
       subst hu;obtain ⟨env',e2,e3⟩:=zAK env hpF nx o.dst u;rw [e2] at hga;refine ⟨dn',fun hl=>(by rw [keepF,hlf] at hl;cases hl),fun _=>⟨env',fun t=> ?_,hga⟩⟩;rw [e3];cases hd:o.dst with
       | none=>exact e1 t
       | some d' =>
         simp only [upd];have hne:d'≠d:=fun e=>hd2 (by rw [hd,e])
         by_cases e:d'=t
         ·subst e;rw [if_pos rfl,if_neg hne,if_pos rfl,AV.kill_free (hf2 (by rw [hd];simp))]
         ·rw [if_neg e,if_neg e];exact e1 t
      rcases hyc with ⟨hw,p,q',hc,hq'⟩|⟨hw,rfl⟩
      ·rw [if_pos (jT (hwant hw) rfl g1)]
       have hc':jO T o.op (y7 env) hpF=some (p,q',v):=by
        rw [qF hopnd,zDR (Pr:=fun i=> !Nat.beq i row) (fun x hx=>AV.free_okP (by
         cases x with
         | tmp t=>exact hf1 t (zCb hx)
         | const u=>exact zGt u
         | _=>rfl)) (hp:=hp) (fun id hid=>hsame id (fun e=>by subst e;simp [zbJ] at hid)) hflat]
        exact hc
       exact (zBw R g1 hop hc').2 hq' fun a' w' hga=>nxt a' w' (step hga rfl)
      ·rw [if_neg (by rw [jT (hwant hw) rfl g1];simp)];exact ⟨fun f _=>trivial,nxt _ _ (step (zBG g1 hop) rfl)⟩
end
end Go.Vm
namespace Go.Vm
open Go.RowKit
theorem AS.kill_kill (g:Nat) (a:AS):kill g (kill g a)=kill g a:=by
 cases a with
 | own i s n=>cases e:Nat.beq i g<;>simp [kill,e]
 | ptr i j k=>cases e:Nat.beq i g<;>simp [kill,e]
 | pti i j k=>cases e:Nat.beq i g<;>simp [kill,e]
 | omp i=>cases e:Nat.beq i g<;>simp [kill,e]
 | arr i n=>cases e:Nat.beq i g<;>simp [kill,e]
 | _=>rfl
theorem AV.kill_kill1 (g:Nat) (v:AV):(v.map1 (kill g)).map1 (kill g)=v.map1 (kill g):=by
 cases v with
 | s a=>simp only [AV.map1,AS.kill_kill]
 | agg l=>simp only [AV.map1,zcE];congr 1;exact zbN fun a _=>AS.kill_kill g a
 | tup l=>rfl
theorem AV.kill_kill (g:Nat) (v:AV):(v.mapAS (kill g)).mapAS (kill g)=v.mapAS (kill g):=by
 cases v with
 | s a=>simp only [AV.mapAS,AS.kill_kill]
 | agg l=>simp only [AV.mapAS,zcE];congr 1;exact zbN fun a _=>AS.kill_kill g a
 | tup l=>simp only [AV.mapAS,zcE];congr 1;exact zbN fun a _=>AV.kill_kill1 g a
section
variable {P:Program} {B:Base} {w:World} {I:Sig} {M:yR} {st:St} {T:Tab} {N:Nat} {a:Act} {r:Option Nat} {n:Nat} {ops:Array Oper} {Q:Exit->Act->World->Prop}
theorem zL2 {T:Tab} {x y:Operand} {ts:Array TypeId} {o:Oper} (hop:o.op= .call ⟨.builtin .append,#[x,y],ts⟩) (st:St):zBr T true o st=zCG T o st/\zCG T o st=zB9 T ts.toList (y7 st.env x) (y7 st.env y) st o.dst:=by
 constructor
 ·simp only [zBr,jY,jO,hop,zT0,zAU,zE1,zJg,zGd]
 ·simp only [zCG,hop,zAU]
structure zaM where
 pos:Nat
 x:Operand
 y:Operand
 d:Tmp
 xv:AV
 yv:AV
 v:AV
 q:Option Prop
 hp:jJ
abbrev Prv:=Option (Nat×Tmp×AV)
def zaS (T:Tab) (ops:Array Oper) (g nx:Nat):Prv->jJ->List zaM->Prv->jJ->Prop
 | p,hp,[],p',hp'=>p=p'/\hp=hp'
 | p,hp,r::l,p',hp'=>(∃ o,ops[r.pos]? =some o/\zDl o=some (r.x,r.y,r.d)/\∀ env,y7 env r.x=r.xv->y7 env r.y=r.yv->zCG T o ⟨env,hp,nx⟩=some (none,r.q,(⟨env.mapAS (kill g),r.hp,nx⟩:St).put (some r.d) r.v))/\Opt r.q/\
     (match p with
       | none=>True
       | some (j,d,_)=>r.x= .tmp d/\waits ops r.pos j=true/\j<r.pos)/\r.yv.free g=true/\(∀ id,id≠g->hget r.hp id=hget hp id)/\zaS T ops g nx (some (r.pos,r.d,r.v)) r.hp l p' hp'
theorem za8 {g nx:Nat} : ∀ {l:List zaM} {j:Nat} {d:Tmp} {v:AV} {hp hp':jJ} {p':Prv},zaS T ops g nx (some (j,d,v)) hp l p' hp'->∀ r∈l,j<r.pos
 | [],_,_,_,_,_,_,_,r,h=>by cases h
 | r0::l,j,d,v,hp,hp',p',h,r,hr=>by
   obtain ⟨_,_,h3,_,_,h6⟩:=h;rcases zT.1 hr with e|hr
   ·rw [e];exact h3.2.2
   ·exact Nat.lt_trans h3.2.2 (za8 h6 r hr)
theorem zaT {g nx:Nat} : ∀ {l:List zaM} {r0:zaM} {p:Prv} {hp hp':jJ} {p':Prv},zaS T ops g nx p hp (r0::l) p' hp'->∀ r∈l,∃ r'∈r0::l,waits ops r.pos r'.pos=true
 | [],_,_,_,_,_,_,r,h=>by cases h
 | r1::l,r0,p,hp,hp',p',h,r,hr=>by
   obtain ⟨_,_,_,_,_,h6⟩:=h;rcases zT.1 hr with e|hr
   ·obtain ⟨_,_,h3,_⟩:=h6;exact ⟨r0,zY ..,by rw [e];exact h3.2.1⟩
   ·obtain ⟨r',h1,h2⟩:=zaT h6 r hr;exact ⟨r',zQ _ h1,h2⟩
def za1:Fr->List zaM->Fr
 | e,[]=>e
 | e,r::l=>za1 (upd e (some r.d) r.v) l
def zaD:List zaM->Prv
 | []=>none
 | [r]=>some (r.pos,r.d,r.v)
 | _::r::l=>zaD (r::l)
theorem zaI: ∀ (A:List zaM) (r:zaM),zaD (A++[r])=some (r.pos,r.d,r.v)
 | [],r=>rfl
 | [_],r=>rfl
 | _::b::l,r=>zaI (b::l) r
theorem zaQ: ∀ (A:List zaM) (e:Fr) (r:zaM),za1 e (A++[r])=upd (za1 e A) (some r.d) r.v
 | [],e,r=>rfl
 | a::l,e,r=>zaQ l _ r
theorem zaN: ∀ {A:List zaM} {e:Fr} {t:Tmp},(∀ r∈A,r.d≠t)->za1 e A t=e t
 | [],_,_,_=>rfl
 | a::l,e,t,h=>by
   show za1 (upd e (some a.d) a.v) l t=e t;rw [zaN fun r hr=>h r (zQ _ hr)];simp only [upd];rw [if_neg (h a (zY ..))]
theorem za6: ∀ {A:List zaM} {e:Fr} {d:Option Tmp} {v:AV},(∀ r∈A,d≠some r.d)->za1 (upd e d v) A=upd (za1 e A) d v
 | [],_,_,_,_=>rfl
 | a::l,e,d,v,h=>by
   show za1 (upd (upd e d v) (some a.d) a.v) l=upd (za1 (upd e (some a.d) a.v) l) d v;rw [zGF fun t ht k=>h a (zY ..) (by rw [ht];exact k.symm),za6 fun r hr=>h r (zQ _ hr)]
def zat (g:Nat) (p:Prv) (e:Fr) (env:Env):Prop:=match p with
 | none=>yZ env=e
 | some (_,d,_)=> ∀ t,yZ env t=if t=d then e t else (e t).mapAS (kill g)
def zak (env1:Env):Prv->Nat->List Oper->List zaM->Prop
 | _,_,[],A=>A=[]
 | p,i,o::l,A=>match zDl o with
   | none=>zak env1 p (i+1) l A
   | some (x,y,d)=> ∃ r A',A=r::A'/\r.pos=i/\r.x=x/\r.y=y/\r.d=d/\r.yv=y7 env1 y/\(match p with
      | none=>r.xv=y7 env1 x
      | some (_,dp,vp)=>x= .tmp dp/\r.xv=vp)/\zak env1 (some (i,d,r.v)) (i+1) l A'
def YM (T:Tab) (ops:Array Oper) (hp:jJ) (g:Nat) (A:List zaM) (i:Nat) (o:Oper) (v:AV) (e:Fr):Prop :=
 (∃ r∈A,i=r.pos/\v=r.v/\(r.x∈o.op.operands/\r.y∈o.op.operands)/\jK e r.x=r.xv/\jK e r.y=r.yv)\/
 (zDl o=none/\((qD ops e o=some true/\∃ p q,jO T o.op (jK e) hp=some (p,q,v)/\Opt q)\/(qD ops e o=some false/\v= .undef))/\(∀ t∈o.looksAt ops,(e t).free g=true)/\(o.dst≠none->v.free g=true))
theorem zai {hp:jJ} {g:Nat} {A:List zaM} :zOy (YM T ops hp g A) ops:=by
 intro i o v u e d h;unfold YM;rw [zAj h,qF (yW h)];have key: ∀ t∈o.looksAt ops,upd e d u t=e t:=fun t ht=>upd_same fun t' hd e=>h t' hd (e▸ht);constructor
 ·rintro (⟨r,hr,h1,h2,h3,h4⟩|⟨h1,h2,h3⟩)
  ·rw [yW h _ h3.1,yW h _ h3.2] at h4;exact .inl ⟨r,hr,h1,h2,h3,h4⟩
  ·exact .inr ⟨h1,h2,fun t ht=>by rw [<- key t ht];exact h3.1 t ht,h3.2⟩
 ·rintro (⟨r,hr,h1,h2,h3,h4⟩|⟨h1,h2,h3⟩)
  ·rw [<- yW h _ h3.1,<- yW h _ h3.2] at h4;exact .inl ⟨r,hr,h1,h2,h3,h4⟩
  ·exact .inr ⟨h1,h2,fun t ht=>by rw [key t ht];exact h3.1 t ht,h3.2⟩
structure FG (B:Base) (N:Nat) (T:Tab) (ops:Array Oper) (g nx:Nat) (hp0 hpF:jJ) (pF:Prv) (A:List zaM) (listed:Array Bool) (e:Fr) (a:Act) (w:World):Prop where
 dn:Dn ops listed
 st: ∃ (A2:List zaM) (p:Prv) (hpc:jJ) (env:Env),zaS T ops g nx p hpc A2 pF hpF/\(∀ r∈A,r∈A2\/listed.getD r.pos true=true)/\(∀ r∈A2,r∈A/\listed.getD r.pos true=false)/\
  (∀ id,id≠g->hget hpc id=hget hp0 id)/\zat g p e env/\(∀ j d v,p=some (j,d,v)->∃ r∈A,r.d=d)/\GA B N ⟨env,hpc,nx⟩ a w
theorem za2 (R:jM P T) (hall: ∀ (i:Nat) (o:Oper),ops[i]? =some o->yT N o=true) {hp0 hpF:jJ} {nx k g fuel:Nat} {A:List zaM} {pF:Prv} {ef:Fr} (lk:Array Bool)
 (hks:k<=ops.size) (hA: ∀ r∈A,r.pos<k) (hflat:zGW (fun i=> !Nat.beq i g) hp0)
 (hwin: ∀ (i:Nat) (o:Oper),i<k->ops[i]? =some o->zDl o=none->∀ r∈A,r.d∉o.looksAt ops/\o.dst≠some r.d)
 (htail: ∀ (a:Act) (w:World) (listed:Array Bool) (env:Env),(∀ i<k,listed.getD i true=true)->(∀ i,listed.getD i true=lk.getD i true)->listed.size=lk.size->zat g pF ef env->GA B N ⟨env,hpF,nx⟩ a w->wpAnyIn (FR r) n P .any ops Q fuel listed a w) :
 ∀ (m:Nat) (listed:Array Bool) (e:Fr) (a:Act) (w:World),zDa (YM T ops hp0 g A) ops k ef m listed e->(∀ i,k<=i->listed.getD i true=lk.getD i true)->(∀ i<k,lk.getD i true=true)->listed.size=lk.size->listed.size=ops.size->FG B N T ops g nx hp0 hpF pF A listed e a w->
   wpAnyIn (FR r) n P .any ops Q (m+fuel) listed a w
 | 0,listed,e,a,w,h,hl1,hl2,hs,_,hr=>by
   obtain ⟨h1,rfl⟩:=h;rw [zD];obtain ⟨A2,p,hpc,env,c1,c2,c3,c4,c5,c6,g1⟩:=hr.st
   have hA2:A2=[]:=by
    cases A2 with
    | nil=>rfl
    | cons r l =>
      obtain ⟨k1,k2⟩:=c3 r (zY ..);rw [h1 _ (hA r k1)] at k2;cases k2
   subst hA2;obtain ⟨rfl,rfl⟩:=c1;refine htail a w listed env h1 (fun i=> ?_) hs c5 g1
   by_cases hi:i<k
   ·rw [h1 i hi,hl2 i hi]
   ·exact hl1 i (by omega)
 | m + 1,listed,e,a,w,h,hl1,hl2,hs,hsz,hr=>by
   rw [show m+1+fuel=(m+fuel)+1 by omega];refine ⟨fun h0=>(h.1 h0).elim,fun i hi=> ?_⟩;obtain ⟨hik,o,v,ho,hy,hk⟩:=h.2 i hi;have hun:=(mem_ready.1 hi).1;have hop:=hall i o ho
   have nxt: ∀ (a':Act) (w':World),FG B N T ops g nx hp0 hpF pF A (listed.setIfInBounds i true) (upd e o.dst v) a' w'->wpAnyIn (FR r) n P .any ops Q (m+fuel) (listed.setIfInBounds i true) a' w':=fun a' w' hr' =>
    za2 R hall lk hks hA hflat hwin htail m _ _ a' w' hk (fun j hj=>by rw [getD_set_ne true (by omega)];exact hl1 j hj) hl2 (by simpa using hs) (by simpa using hsz) hr'
   have dn':Dn ops (listed.setIfInBounds i true):=hr.dn.set hi;obtain ⟨A2,p,hpc,env,c1,c2,c3,c4,c5,c6,g1⟩:=hr.st;unfold wpOpIn;simp only [ho];rcases hy with ⟨r1,hr1,rfl,rfl,hxy,hxv,hyv⟩|⟨happ,hyc,hf1,hf2⟩
   ·-- an append
    have hin:r1∈A2:=by
     rcases c2 r1 hr1 with k1|k1
     ·exact k1
     ·rw [k1] at hun;cases hun
    cases A2 with
    | nil=>cases hin
    | cons r0 l =>
    have e0:r1=r0:=by
     rcases zT.1 hin with k1|k1
     ·exact k1
     ·obtain ⟨r',k2,k3⟩:=zaT c1 r1 k1;have k4:=zJ2 hi k3;rw [(c3 r' k2).2] at k4;cases k4
    subst e0;obtain ⟨⟨o',ho',happ,heff⟩,hq,hprev,hyf,hsame,hch⟩:=c1;rw [ho] at ho';cases ho';obtain ⟨hgF,hdF,_⟩:=zB8 happ;rw [if_pos (by simp [Region.wanted,hgF])]
    have hx:y7 env r1.x=r1.xv:=by
     cases p with
     | none=>rw [<- y4,show yZ env=e from c5];exact hxv
     | some q =>
       obtain ⟨j,d,v⟩:=q;rw [hprev.1] at hxv ⊢;show yZ env d=_;rw [c5 d,if_pos rfl];exact hxv
    have hy:y7 env r1.y=r1.yv:=by
     cases p with
     | none=>rw [<- y4,show yZ env=e from c5];exact hyv
     | some q =>
       obtain ⟨j,d,v⟩:=q;cases hyy:r1.y with
       | tmp t =>
         rw [hyy] at hyv;have hyv:e t=r1.yv:=hyv;show yZ env t=_;rw [c5 t];split
         ·exact hyv
         ·rw [hyv,AV.kill_free hyf]
       | _=>rw [hyy] at hyv;exact hyv
    have he:=heff env hx hy;refine (zHD R g1 hop he).2 hq fun a' w' hga=>nxt a' w' ⟨dn',l,some (r1.pos,r1.d,r1.v),r1.hp,_,hch,fun r2 hr2=> ?_,fun r2 hr2=> ?_,fun id hid=>by rw [hsame id hid,c4 id hid],fun t=> ?_,fun j d v hj=> ?_,hga⟩
    ·rcases c2 r2 hr2 with k1|k1
     ·rcases zT.1 k1 with k2|k2
      ·right;rw [k2];exact jA
      ·exact .inl k2
     ·right
      by_cases e:r1.pos=r2.pos
      ·rw [<- e];exact jA
      ·rw [getD_set_ne true e];exact k1
    ·refine ⟨(c3 r2 (zQ _ hr2)).1,?_⟩;have:=za8 hch r2 hr2;rw [getD_set_ne true (by omega)];exact (c3 r2 (zQ _ hr2)).2
    ·rw [hdF];show yZ ((r1.d,r1.v)::env.mapAS (kill g)) t=_;rw [qR]
     by_cases e1:t=r1.d
     ·subst e1;simp [upd]
     ·rw [if_neg (Ne.symm e1),if_neg e1,j7 _ rfl];simp only [upd];rw [if_neg (Ne.symm e1)];cases p with
      | none=>rw [show yZ env=e from c5]
      | some q =>
        obtain ⟨j,d,v⟩:=q;rw [c5 t];split
        ·rfl
        ·rw [AV.kill_kill]
    ·cases hj;exact ⟨r1,hr1,rfl⟩
   ·have hw':=hwin i o hik ho happ
    have nof: ∀ r∈A,(listed.setIfInBounds i true).getD r.pos true=listed.getD r.pos true:=fun r hr=>getD_set_ne true fun e=>by
     have h1: ∃ o',ops[r.pos]? =some o':=⟨o,by rw [<- e];exact ho⟩;subst e;rcases c2 r hr with k1|k1
     ·-- no append stands here
      have: ∀ {l:List zaM} {p:Prv} {hp:jJ},zaS T ops g nx p hp l pF hpF->r∈l->∃ o',ops[r.pos]? =some o'/\zDl o'=some (r.x,r.y,r.d):=fun {l} =>by
       induction l with
       | nil=>intro _ _ _ h;cases h
       | cons r0 l ih =>
         intro _ _ hc h;obtain ⟨⟨o',q1,q2,_⟩,_,_,_,_,hc'⟩:=hc;rcases zT.1 h with e|h
         ·rw [e];exact ⟨o',q1,q2⟩
         ·exact ih hc' h
      obtain ⟨o',q1,q2⟩:=this c1 k1;rw [ho] at q1;cases q1;rw [happ] at q2;cases q2
     ·rw [k1] at hun;cases hun
    have hlook: ∀ t∈o.looksAt ops,yZ env t=e t:=fun t ht=>by
     cases p with
     | none=>rw [show yZ env=e from c5]
     | some q =>
       obtain ⟨j,d,v⟩:=q;obtain ⟨r2,q1,q2⟩:=c6 j d v rfl;rw [c5 t,if_neg (by rintro rfl;rw [<- q2] at ht;exact (hw' r2 q1).1 ht),AV.kill_free (hf1 t ht)]
    have hopnd: ∀ x∈o.op.operands,y7 env x=jK e x:=fun x hx=>by
     cases x with
     | tmp t=>exact hlook t (zCb hx)
     | _=>rfl
    have hwant: ∀ {b},qD ops e o=some b->qD ops (yZ env) o=some b:=fun {b} hw=>by
     rw [<- hw];unfold qD;cases hg:o.guard with
     | none=>rfl
     | some jw =>
       obtain ⟨j,want⟩:=jw;simp only;cases hs:qT ops j with
       | none=>rfl
       | some s =>
         simp only
         rw [hlook s (by
          simp only [Oper.looksAt,hg,yD];right;unfold qT at hs;cases ho:ops[j]? with
          | none=>simp [ho] at hs
          | some o'=>simp only [ho] at hs;simp [hs])]
    have step: ∀ {a':Act} {w':World},GA B N ((⟨env,hpc,nx⟩:St).put o.dst v) a' w'->FG B N T ops g nx hp0 hpF pF A (listed.setIfInBounds i true) (upd e o.dst v) a' w':=fun {a' w'} hga=>by
     obtain ⟨env',e2,e3⟩:=zAK env hpc nx o.dst v;rw [e2] at hga;refine ⟨dn',A2,p,hpc,env',c1,fun r2 hr2=>by rw [nof r2 hr2];exact c2 r2 hr2,fun r2 hr2=>⟨(c3 r2 hr2).1,by rw [nof r2 (c3 r2 hr2).1];exact (c3 r2 hr2).2⟩,c4,?_,c6,hga⟩;cases p with
     | none=>show yZ env'=_;rw [e3,show yZ env=e from c5]
     | some q =>
       obtain ⟨j,d,v'⟩:=q;obtain ⟨r2,q1,q2⟩:=c6 j d v' rfl;intro t;rw [e3];cases hd:o.dst with
       | none=>exact c5 t
       | some d' =>
         simp only [upd];have hne:d'≠d:=fun e=>(hw' r2 q1).2 (by rw [hd,e,q2])
         by_cases e:d'=t
         ·subst e;rw [if_pos rfl,if_neg hne,if_pos rfl,AV.kill_free (hf2 (by rw [hd];simp))]
         ·rw [if_neg e,if_neg e];exact c5 t
    rcases hyc with ⟨hw,p',q',hc,hq'⟩|⟨hw,rfl⟩
    ·rw [if_pos (jT (hwant hw) rfl g1)]
     have hc':jO T o.op (y7 env) hpc=some (p',q',v):=by
      rw [qF hopnd,zDR (Pr:=fun i=> !Nat.beq i g) (fun x hx=>AV.free_okP (by
       cases x with
       | tmp t=>exact hf1 t (zCb hx)
       | const u=>exact zGt u
       | _=>rfl)) (hp:=hp0) (fun id hid=>c4 id (fun e=>by subst e;simp [zbJ] at hid)) hflat]
      exact hc
     exact (zBw R g1 hop hc').2 hq' fun a' w' hga=>nxt a' w' (step hga)
    ·rw [if_neg (by rw [jT (hwant hw) rfl g1];simp)];exact ⟨fun f _=>trivial,nxt _ _ (step (zBG g1 hop))⟩
theorem zaV {o:Oper} {e e':Fr} (h: ∀ t∈o.looksAt ops,e t=e' t):qD ops e o=qD ops e' o:=by
 unfold qD;cases hg:o.guard with
 | none=>rfl
 | some jw =>
   obtain ⟨j,want⟩:=jw;simp only;cases hs:qT ops j with
   | none=>rfl
   | some s =>
     simp only
     rw [h s (by
      simp only [Oper.looksAt,hg,yD];right;unfold qT at hs;cases ho:ops[j]? with
      | none=>simp [ho] at hs
      | some o'=>simp only [ho] at hs;simp [hs])]
theorem zaR: ∀ {A:List zaM},zaD A=none->A=[]
 | [],_=>rfl
 | [_],h=>by cases h
 | _::b::l,h=>by have:=zaR (A:=b::l) h;cases this
theorem zaG: ∀ {A:List zaM} {j:Nat} {d:Tmp} {v:AV} (e:Fr),zaD A=some (j,d,v)->za1 e A d=v/\∃ r∈A,r.d=d
 | [],_,_,_,_,h=>by cases h
 | [r],j,d,v,e,h=>by
   cases h;exact ⟨by show upd e (some r.d) r.v r.d=r.v;simp [upd],r,zY ..,rfl⟩
 | a::b::l,j,d,v,e,h=>by
   obtain ⟨h1,r,h2,h3⟩:=zaG (A:=b::l) (upd e (some a.d) a.v) h;exact ⟨h1,r,zQ _ h2,h3⟩
theorem zaH {o:Oper} : ∀ {l:List Oper},zaW ops o l=true->∀ o2∈l,∀ d,o2.dst=some d->d∉o.looksAt ops/\o.dst≠some d
 | [],_,_,h,_,_=>by cases h
 | o1::l,h,o2,ho,d,hd=>by
   simp only [zaW,zC] at h;rcases zT.1 ho with e|ho
   ·subst e;have h1:=h.1;rw [hd] at h1;simp only [zC,zbB] at h1;refine ⟨fun hm=> ?_,fun hdd=> ?_⟩
    ·have:(o.looksAt ops).contains d=true:=by simpa using hm
     rw [this] at h1;cases h1.1
    ·rw [hdd] at h1;simp at h1
   ·exact zaH h.2 o2 ho d hd
def za0 (ops:Array Oper) (N:Nat) (D:List Tmp) (l:List Oper):Prop:= ∀ o∈l,yT N o=true/\(zDl o=none->j0 o.op=true/\(∀ t∈o.looksAt ops,t∉D)/\∀ t,o.dst=some t->t∉D)/\∀ x y d,zDl o=some (x,y,d)->d∈D/\∀ t,y= .tmp t->t∉D
theorem zaK (R:jM P T) {hp:jJ} {nx g:Nat} {D:List Tmp} : ∀ (l:List Oper) (i:Nat) {env:Env} {a:Act} {w:World} {K:St->Prop},za0 ops N D l->zap ops l=true->
 GA B N ⟨env,hp,nx⟩ a w->zag T g ops l ⟨env,hp,nx⟩ K->∃ env' a' w',K ⟨env',hp,nx⟩/\GA B N ⟨env',hp,nx⟩ a' w'/\(∀ t,(∀ o∈l,zDl o=none->o.dst≠some t)->yZ env' t=yZ env t)/\
  ∀ (A0 A:List zaM),(∀ r∈A0++A,r.d∈D)->zak env' (zaD A0) i l A->zAl (YM T ops hp g (A0++A)) (za1 (yZ env') (A0++A)) i l (za1 (yZ env) A0)
 | [],i,env,a,w,K,_,_,h,hk=>⟨env,a,w,hk,h,fun _ _=>rfl,fun A0 A _ hA=>by
     obtain rfl:A=[]:=hA
     rw [zbF];exact rfl⟩
 | o :: l, i,env,a,w,K,hl,hs,h,hk=>by
   obtain ⟨hop,h1,h2⟩:=hl o (zY ..);have hl':za0 ops N D l:=fun o' ho'=>hl o' (zQ _ ho');simp only [zap,zC] at hs;simp only [zag] at hk;split at hk
   ·rename_i xyd happ;obtain ⟨x,y,d⟩:=xyd;obtain ⟨_,hdst,ts,hoo⟩:=zB8 happ;obtain ⟨env',a',w',k1,g1,keep,lex⟩:=zaK R l (i+1) hl' hs.2 h hk;refine ⟨env',a',w',k1,g1,fun t ht=>keep t fun o' ho'=>ht o' (zQ _ ho'),fun A0 A hD hA=> ?_⟩;simp only [zak,happ] at hA;obtain ⟨r,A',rfl,e1,e2,e3,e4,e5,e6,hA'⟩:=hA;have hxo:x∈o.op.operands:=by rw [hoo];simp [Op.operands,Call.operands]
    have hyo:y∈o.op.operands:=by rw [hoo];simp [Op.operands,Call.operands]
    have same: ∀ t,Operand.tmp t∈o.op.operands->yZ env' t=yZ env t:=fun t ht=>keep t fun o2 ho2 _ hd=>(zaH hs.1 o2 ho2 t hd).1 (zCb ht);refine ⟨r.v,.inl ⟨r,by simp,e1.symm,rfl,⟨by rw [e2];exact hxo,by rw [e3];exact hyo⟩,?_,?_⟩,?_⟩
    ·rw [e2];cases hp0:zaD A0 with
     | none =>
       rw [hp0] at e6;obtain rfl:=zaR hp0;rw [show r.xv=_ from e6];cases x with
       | tmp t=>exact (same t hxo).symm
       | _=>rfl
     | some q =>
       obtain ⟨j,dp,vp⟩:=q;rw [hp0] at e6;obtain ⟨rfl,e7⟩:x= .tmp dp/\r.xv=vp:=e6;rw [e7];exact (zaG (yZ env) hp0).1
    ·rw [e3,e5];cases y with
     | tmp t =>
       have ht:=(h2 _ _ _ happ).2 t rfl;show za1 (yZ env) A0 t=yZ env' t;rw [zaN fun r' hr' e=>ht (by rw [<- e];exact hD r' (by simp [hr'])),same t hyo]
     | _=>rfl
    ·have:=lex (A0++[r]) A' (by simpa using hD) (by rw [zaI,e1,e4];exact hA');rw [zbu,zaQ] at this;rw [hdst,<- e4];exact this
   ·rename_i happ;obtain ⟨hc,hlo,hds⟩:=h1 happ;split at hk
    case h_2=>exact hk.elim
    rename_i hfo;obtain ⟨v,env1,a1,w1,e1,k1,g1,y1⟩:=zCE R hc hop h hk;split at k1
    case h_2=>exact k1.elim
    rename_i hfd;obtain ⟨env',a',w',k2,g2,keep,lex⟩:=zaK R l (i+1) hl' hs.2 g1 k1;refine ⟨env',a',w',k2,g2,fun t ht=> ?_,fun A0 A hD hA=> ?_⟩
    ·rw [keep t fun o' ho'=>ht o' (zQ _ ho'),e1];exact upd_same fun t' hd e=>ht o (zY ..) happ (by rw [hd,e])
    ·simp only [zak,happ] at hA;have hout: ∀ t∈o.looksAt ops,za1 (yZ env) A0 t=yZ env t:=fun t ht=>zaN fun r' hr' e=>hlo t ht (by rw [<- e];exact hD r' (by simp [hr']));refine ⟨v,.inr ⟨happ,?_,fun t ht=> ?_,fun hne=> ?_⟩,?_⟩
     ·rw [zaV hout,qF (ev':=jK (yZ env)) fun x hx=>by
       cases x with
       | tmp t=>exact hout t (zCb hx)
       | _=>rfl]
      exact y1
     ·rw [hout t ht];simp only [zBt,zJ,zDK] at hfo;exact hfo t ht
     ·cases hd:o.dst with
      | none=>exact absurd hd hne
      | some t =>
        simp only [zCl,hd] at hfd;have:yZ env1 t=v:=by rw [e1,hd];simp [upd]
        rw [this] at hfd;exact hfd
     ·have:=lex A0 A hD hA;rw [e1,za6 fun r hr e=>hds _ e (hD r (by simp [hr]))] at this;exact this
theorem zam {ts:List TypeId} {xv yv:AV} {env:Env} {hp:jJ} {nx g:Nat} {d:Option Tmp} {res} (hx:(∃ e,xv= .s (.emp e)/\∃ hp1,hp=(g,.row .unit 0 [])::hp1)\/∃ s n,xv= .s (.own g s n)) (h:zB9 T ts xv yv ⟨env,hp,nx⟩ d=some res) :
 ∃ n' row q,(∃ ob,hget hp g=some ob)/\res=(none,q,(⟨env.mapAS (kill g),zA6 (hp.mapAS (kill g)) g row,nx⟩:St).put d (.s (.own g 0 n')))/\∀ env',zB9 T ts xv yv ⟨env',hp,nx⟩ d=some (none,q,(⟨env'.mapAS (kill g),zA6 (hp.mapAS (kill g)) g row,nx⟩:St).put d (.s (.own g 0 n'))):=by
 rcases hx with ⟨e,rfl,hp1,rfl⟩|⟨s,n,rfl⟩
 ·unfold zB9 zah at h ⊢;dsimp only at h ⊢;split at h
  case h_2=>cases h
  rename_i t t' e' ys g' hp2 hys hcons;cases hcons;split at h
  case h_2=>cases h
  rename_i u hb hd;split at h
  case h_2=>cases h
  rename_i he ui hdec hui;split at h
  case h_2=>cases h
  rename_i c1 c2 c3;refine ⟨ys.length,.row e u (he▸ys),some ((ys.length:Int)*ui.bytes<=140737488355328),⟨_,by rw [yL,if_pos rfl]⟩,(Option.some.inj h).symm,fun env'=> ?_⟩;simp only [hys,hb,hd,hdec,hui,c1,c2,c3]
 ·obtain ⟨r0,s',n1,n',rowO,q,e1,hob,hresE,hany⟩:=zFV (fun e k=>by cases k) h;cases e1;exact ⟨n',rowO,q,hob,hresE,hany⟩
theorem zan (R:jM P T) {o:Oper} {x y:Operand} {d:Tmp} (happ:zDl o=some (x,y,d)) (hop:yT N o=true) {env:Env} {hp:jJ} {nx:Nat} (h:GA B N ⟨env,hp,nx⟩ a w) {K:St->Prop} (hk:zAN T true ops [o] ⟨env,hp,nx⟩ K) :
 ∃ p q st' a' w',zCG T o ⟨env,hp,nx⟩=some (p,q,st')/\Opt q/\K st'/\GA B N st' a' w':=by
 obtain ⟨hg,hd,ts,hopE⟩:=zB8 happ
 have haop:aop T true o ⟨env,hp,nx⟩ fun st3=>K st3:=by
  simp only [zAN,hg] at hk;exact hk
 simp only [aop] at haop;unfold zSI at haop;rw [(zL2 hopE ⟨env,hp,nx⟩).1] at haop;simp only [St.force_eq] at haop
 have fin: ∀ {p q:Option Prop} {st':St},zCG T o ⟨env,hp,nx⟩=some (p,q,st')->Opt q->K st'->∃ p q st' a' w',zCG T o ⟨env,hp,nx⟩=some (p,q,st')/\Opt q/\K st'/\GA B N st' a' w':=fun he hq hk=>by
  obtain ⟨a',w',hga⟩:=zD2 ((zHD (r:=none) (n:=0) R h hop he).2 hq (K:=fun a' w'=>GA B N _ a' w') (Q:=fun _ _ _=>False) fun _ _ h=>h);exact ⟨_,_,_,a',w',he,hq,hk,hga⟩
 split at haop
 ·rename_i st' hs;exact fin hs trivial haop
 ·rename_i p st' hs;exact fin hs trivial (haop.out (zHD (r:=none) (n:=0) R h hop hs).1)
 ·rename_i q st' hs;obtain ⟨k1,k2⟩:=haop.out;exact fin hs k1 k2
 ·rename_i p q st' hs;obtain ⟨k1,k2⟩:=(haop.out (zHD (r:=none) (n:=0) R h hop hs).1).out;exact fin hs k1 k2
 ·exact haop.elim
def zal:Prv->Option Tmp
 | none=>none
 | some (_,d,_)=>some d
def zau:Prv->Option Nat
 | none=>none
 | some (j,_,_)=>some j
theorem zaJ (R:jM P T) {hp0 hp1:jJ} {nx g:Nat} {D:List Tmp} {env1:Env} (hp01:hp0=(g,.row .unit 0 [])::hp1) (hfr:zD8 g hp0=true): ∀ (l:List Oper) (i:Nat) (A0:List zaM) {hpc:jJ} {env:Env} {a:Act} {w:World} {K:St->Prop},
 (∀ j:Nat,j<l.length->l[j]? =ops[i+j]?)->za0 ops N D l->zaO ops D (zau (zaD A0)) i l=true->(∀ r∈A0,r.d∈D)->(A0=[]->hpc=hp0)->
 (∀ j d v,zaD A0=some (j,d,v)->(∃ n,v= .s (.own g 0 n))/\j<i)->(∃ ob,hget hpc g=some ob)->(∀ id,id≠g->hget hpc id=hget hp0 id)->zat g (zaD A0) (za1 (yZ env1) A0) env->
 GA B N ⟨env,hpc,nx⟩ a w->zaa T g env1 ops (zal (zaD A0)) l ⟨env,hpc,nx⟩ K->
 ∃ A env' hpF,K ⟨env',hpF,nx⟩/\zaS T ops g nx (zaD A0) hpc A (zaD (A0++A)) hpF/\zak env1 (zaD A0) i l A/\zat g (zaD (A0++A)) (za1 (yZ env1) (A0++A)) env'/\∀ r∈A,r.pos<i+l.length/\r.d∈D
 | [],i,A0,hpc,env,a,w,K,_,_,_,_,_,_,_,_,hr,_,hk=>⟨[],env,hpc,hk,⟨by rw [zbF],rfl⟩,rfl,by rw [zbF];exact hr,fun r hr=>by cases hr⟩
 | o :: l, i,A0,hpc,env,a,w,K,hpos,hl,hw,hD,hnil,hown,hob,hsm,hr,h,hk=>by
   obtain ⟨hop,_,h2⟩:=hl o (zY ..);have hl':za0 ops N D l:=fun o' ho'=>hl o' (zQ _ ho')
   have hpos': ∀ j:Nat,j<l.length->l[j]? =ops[i+1+j]? :=fun j hj=>by
    have:=hpos (j+1) (by simp;omega);simpa [zbi,zbv 1 j] using this
   have ho:ops[i]? =some o:=by simpa using (hpos 0 (by simp)).symm
   simp only [zaO] at hw;simp only [zaa] at hk;split at hk
   ·rename_i happ;rw [happ] at hw;simp only [zC] at hw;obtain ⟨A,env',hpF,k1,k2,k3,k4,k5⟩:=zaJ (env1:=env1) (D:=D) R hp01 hfr l (i+1) A0 hpos' hl' hw.2 hD hnil (fun j d v e=>⟨(hown j d v e).1,by have:=(hown j d v e).2;omega⟩) hob hsm hr h hk;refine ⟨A,env',hpF,k1,k2,?_,k4,fun r hr=>⟨by have:=(k5 r hr).1;simp;omega,(k5 r hr).2⟩⟩;simp only [zak,happ];exact k3
   ·rename_i x y d happ;rw [happ] at hw;simp only [zC] at hw;split at hk
    case h_2=>exact hk.elim
    rename_i hX hyf;obtain ⟨hg,hd,ts,hopE⟩:=zB8 happ;obtain ⟨hdD,hyD⟩:=h2 _ _ _ happ;obtain ⟨p,q,st',a',w',he,hq,hk',hga⟩:=zan R happ hop h hk
    -- the operands
    have hy:y7 env y=y7 env1 y:=by
     cases y with
     | tmp t =>
       have ht:=hyD t rfl;have hU:za1 (yZ env1) A0 t=yZ env1 t:=zaN fun r hr e=>ht (by rw [<- e];exact hD r hr);show yZ env t=yZ env1 t;cases hp:zaD A0 with
       | none=>rw [hp] at hr;rw [show yZ env=_ from hr,hU]
       | some pr =>
         obtain ⟨j,d',v'⟩:=pr;rw [hp] at hr;obtain ⟨_,r',q1,q2⟩:=zaG (yZ env1) hp;rw [hr t,if_neg (fun e=>ht (by rw [e,<- q2];exact hD r' q1)),hU];exact AV.kill_free hyf
     | _=>rfl
    have hx :(match zaD A0 with|none=>y7 env x=y7 env1 x|some (_,dp,vp)=>x= .tmp dp/\y7 env x=vp)/\((∃ e,y7 env x= .s (.emp e)/\∃ hp1,hpc=(g,.row .unit 0 [])::hp1)\/∃ s n,y7 env x= .s (.own g s n)):=by
     cases hp:zaD A0 with
     | none =>
       rw [hp] at hr hX;obtain rfl:=zaR hp;have e1:y7 env x=y7 env1 x:=by rw [<- y4,<- y4,show yZ env=_ from hr];rfl
       refine ⟨e1,.inl ?_⟩;simp only [zal,zad] at hX;split at hX
       ·rename_i e he';exact ⟨e,by rw [e1,he'],hp1,by rw [hnil rfl,hp01]⟩
       ·cases hX
     | some pr =>
       obtain ⟨j,dp,vp⟩:=pr;rw [hp] at hr hX;obtain ⟨⟨n0,e0⟩,_⟩:=hown j dp vp hp;simp only [zal,zad] at hX;split at hX
       ·rename_i t';obtain rfl:=zH hX
        have e1:y7 env (.tmp dp)=vp:=by
         show yZ env dp=vp;rw [hr dp,if_pos rfl];exact (zaG (yZ env1) hp).1
        exact ⟨⟨rfl,e1⟩,.inr ⟨0,n0,by rw [e1,e0]⟩⟩
       ·cases hX
    have he0:=he;rw [(zL2 hopE ⟨env,hpc,nx⟩).2] at he;obtain ⟨n',row,q',⟨ob,hob'⟩,hres,hany⟩:=zam hx.2 he;cases hres;have hexm: ∃ o,hget (hpc.mapAS (kill g)) g=some o:=⟨_,by rw [zA5,hob'];rfl⟩
    have hsame: ∀ id,id≠g->hget (zA6 (hpc.mapAS (kill g)) g row) id=hget hpc id:=fun id hne=>by
     rw [zAR hexm,if_neg hne,zA5,hsm id hne,<- zA5,zEQ hfr id hne]
    have hga':GA B N ⟨(d,.s (.own g 0 n'))::env.mapAS (kill g),zA6 (hpc.mapAS (kill g)) g row,nx⟩ a' w':=by
     rw [hd] at hga;exact hga
    have hk2:zaa T g env1 ops (some d) l ⟨(d,.s (.own g 0 n'))::env.mapAS (kill g),zA6 (hpc.mapAS (kill g)) g row,nx⟩ K:=by
     rw [hd] at hk';exact hk'
    obtain ⟨rc,hrc⟩: ∃ rc:zaM,rc=⟨i,x,y,d,y7 env x,y7 env1 y,.s (.own g 0 n'),q,zA6 (hpc.mapAS (kill g)) g row⟩:=⟨_,rfl⟩;have hl0:zaD (A0++[rc])=some (i,d,.s (.own g 0 n')):=by rw [zaI,hrc]
    obtain ⟨A,env',hpF,k1,k2,k3,k4,k5⟩:=zaJ (env1:=env1) (D:=D) R hp01 hfr l (i+1) (A0++[rc]) (hpc:=zA6 (hpc.mapAS (kill g)) g row) hpos' hl' (by rw [hl0];exact hw.2) (fun r hr=>by
     rcases yD.1 hr with e|e
     ·exact hD r e
     ·rw [zF.1 e,hrc];exact hdD) (fun e=>by simp at e) (fun j d' v' e=>by
     rw [hl0] at e;cases e;exact ⟨⟨n',rfl⟩,by omega⟩) ⟨row,by rw [zAR hexm,if_pos rfl]⟩ (fun id hid=>by rw [hsame id hid,hsm id hid]) (by
     rw [hl0];intro t;rw [qR,zaQ,hrc]
     by_cases e1:t=d
     ·subst e1;simp [upd]
     ·rw [if_neg (Ne.symm e1),if_neg e1,j7 _ rfl];simp only [upd];rw [if_neg (Ne.symm e1)];cases hp:zaD A0 with
      | none=>rw [hp] at hr;rw [show yZ env=_ from hr]
      | some pr =>
        obtain ⟨j,d',v'⟩:=pr;rw [hp] at hr;rw [hr t];split
        ·rfl
        ·rw [AV.kill_kill]) hga' (by rw [hl0];exact hk2)
    rw [zbu] at k2 k4;rw [hl0] at k2 k3;refine ⟨rc::A,env',hpF,k1,⟨⟨o,by rw [hrc];exact ho,by rw [hrc];exact happ,fun env2 e1 e2=> ?_⟩,by rw [hrc];exact hq,?_,by rw [hrc];exact hyf,by rw [hrc];exact hsame,by rw [hrc] at k2 ⊢;exact k2⟩,?_,k4,fun r hr=> ?_⟩
    ·rw [hrc] at e1 e2 ⊢;rw [(zL2 hopE ⟨env2,hpc,nx⟩).2];show zB9 T ts.toList (y7 env2 x) (y7 env2 y) ⟨env2,hpc,nx⟩ o.dst=_;rw [show y7 env2 x=y7 env x from e1,show y7 env2 y=y7 env y by rw [hy];exact e2];have:=hany env2;rw [this,hd]
    ·cases hp:zaD A0 with
     | none=>trivial
     | some pr =>
       obtain ⟨j,dp,vp⟩:=pr;rw [hp] at hx hw;rw [hrc];exact ⟨hx.1.1,hw.1.1,(hown j dp vp hp).2⟩
    ·simp only [zak,happ];refine ⟨rc,A,rfl,by rw [hrc],by rw [hrc],by rw [hrc],by rw [hrc],by rw [hrc],?_,by rw [hrc];exact k3⟩;cases hp:zaD A0 with
     | none=>rw [hp] at hx;rw [hrc];exact hx.1
     | some pr =>
       obtain ⟨j,dp,vp⟩:=pr;rw [hp] at hx;rw [hrc];exact hx.1
    ·rcases zT.1 hr with e|e
     ·rw [e,hrc];exact ⟨by simp,hdD⟩
     ·exact ⟨by have:=(k5 r e).1;simp;omega,(k5 r e).2⟩
end
end Go.Vm
namespace Go.Vm
open Go.RowKit
section
variable {P:Program} {T:Tab} {B:Base} {w w':World} {I:Sig} {M:yR} {st:St} {tmps:Array Value} {o:Oper} {ρ:Operand->Value}
def zMl (T:Tab) (op:Op) (ev:Operand->AV):Option (Option Prop×Ob×(Nat->AS)) :=
 match op with
 | .alloc t=>match T.info t with
   | some ti=>some (none,.flat t ti.zero,fun i=> .ptr i 0 0)
   | none=>none
 | .box t x=>match (ev x).flat with
   | some cs=>some (none,.flat t cs,fun i=> .ptr i 0 0)
   | none=>none
 | .makeMap t none=>match T.desc t with
   | .map k v=>match T.info k,T.info v with
     | some ki,some vi=>match ki.ety,vi.ety with
       | some ek,some (.sl e)=>some (none,.gmap ek e [],.omp)
       | some ek,some ev=>some (none,.map ek ev [],.omp)
       | _,_=>none
     | _,_=>none
   | _=>none
 | .makeSlice t l c=>match T.desc t,ev l,ev c with
   | .slice u,.s (.int .i64 n),.s (.int .i64 c)=>match T.info u with
     | some ui=>match ui.ety with
       | some (.sl e)=>match Nat.beq ui.bytes 0 with
         | false=>some (some (0<=n/\n<=c/\c*ui.bytes<=140737488355328),.grow e u (List.replicate n.toNat []),fun i=> .own i 0 n.toNat)
         | true=>none
       | some e=>match Nat.beq ui.bytes 0 with
         | false=>some (some (0<=n/\n<=c/\c*ui.bytes<=140737488355328),.row e u (List.replicate n.toNat e.dflt),fun i=> .own i 0 n.toNat)
         | true=>none
       | none=>none
     | none=>none
   | _,_,_=>none
 | _=>none
theorem zWF {ob:Ob} {ref:Nat->AS} {q0:Option Prop} (hm:zMl T o.op (y7 st.env)=some (q0,ob,ref)):zCG T o st=some (none,q0,st.mk' o.dst ob ref):=by
 obtain ⟨dst,op,type,pos,after,guard⟩:=o;change zMl T op (y7 st.env)=_ at hm;unfold zMl at hm;split at hm
 ·split at hm
  ·rename_i ti hti;cases hm;simp only [zCG,hti];rfl
  ·cases hm
 ·split at hm
  ·rename_i cs hcs;cases hm;simp only [zCG,hcs];rfl
  ·cases hm
 ·simp only [zCG,zGK];split at hm
  ·rename_i k v hd;split at hm
   ·rename_i ki vi h1 h2;simp only [hd,h1,h2];split at hm
    ·rename_i ek e h3 h4;cases hm;simp only [h3,h4];rfl
    ·rename_i ek ev hno h3 h4;cases hm;rw [h3,h4];split
     ·rename_i e1 e2;cases e1;cases e2;exact (hno _ rfl).elim
     ·rename_i e1 e2;cases e1;cases e2;rfl
     ·rename_i e1 e2;exact (e2 _ _ rfl rfl).elim
    ·cases hm
   ·cases hm
  ·cases hm
 ·simp only [zCG,zDF];split at hm
  ·rename_i u n c hd h1 h2;simp only [hd,h1,h2];split at hm
   ·rename_i ui hui;simp only [hui];split at hm
    ·rename_i e he;simp only [he];split at hm
     ·rename_i hb;cases hm;simp only [hb];rfl
     ·cases hm
    ·rename_i e hno he;rw [he];split at hm
     ·rename_i hb;cases hm;split
      ·rename_i e1;cases e1;exact (hno _ rfl).elim
      ·rename_i e1;cases e1;simp only [hb];rfl
      ·rename_i e1;cases e1
     ·cases hm
    ·cases hm
   ·cases hm
  ·cases hm
 ·cases hm
structure zYw (I:Sig) (M:yR) (w w':World) (v:Value) (pl:Bk) (ob:Ob) (ref:Nat->AS):Prop where
 new:pl.b=w.heap.size
 old: ∀ k,k<w.heap.size->w'.heap[k]? =w.heap[k]?
 bel: ∀ n,n<=w.heap.size->Below n w w'
 at_: ∀ (β':yR) (id:Nat),β'[id]? =some (some pl)->(∀ a x,y5 I M a x->y5 I β' a x)->zAf I β' w' id ob/\y5 I β' (ref id) v
theorem zYw.alloc {o':Obj} {v:Value} {pl:Bk} {ob:Ob} {ref:Nat->AS} (hn:pl.b=w.heap.size)
 (h: ∀ (β':yR) (id:Nat),β'[id]? =some (some pl)->(∀ a x,y5 I M a x->y5 I β' a x)->zAf I β' (w.alloc o') id ob/\y5 I β' (ref id) v):zYw I M w (w.alloc o') v pl ob ref :=
 ⟨hn,alloc_old w _,fun _ hb=>Below.alloc' w _ hb,h⟩
theorem zTF (hT:zAA P T) (hE:zGz T) {ev:Operand->AV} (hops: ∀ x∈o.op.operands,y6 I M (ev x) (ρ x)) {ob:Ob} {ref:Nat->AS} {q:Option Prop} (hm:zMl T o.op ev=some (q,ob,ref)) (hq:Opt q) :
 ∃ v w' pl,(execOp ρ o).run P w= .ok (.value v) w'/\zYw I M w w' v pl ob ref:=by
 obtain ⟨dst,op,type,pos,after,guard⟩:=o;change zMl T op ev=_ at hm;change ∀ x∈op.operands,_ at hops;unfold zMl at hm;split at hm
 ·rename_i t;split at hm
  ·rename_i ti hti;cases hm;obtain ⟨i,z,hi,hs,hb,hz,hzl⟩:=(hT _ _ hti).get;refine ⟨.pointer (some ⟨w.heap.size,0,none⟩),w.alloc (.cells z.cells t),⟨w.heap.size,0,ti.zero.length,ti.zero.length,1⟩,by simp [execOp,Instr.alloc,zeroValue,typeInfo,hi,hz,newVar,newRow],zYw.alloc rfl fun β' id hl hmono=>⟨⟨_,hl,rfl,rfl,rfl,rfl,_,Go.heap_alloc_new w _,?_⟩,⟨_,hl,by simp,by simp⟩⟩⟩;rw [hzl];exact zEe (hT _ _ hti).zok
  ·cases hm
 ·rename_i t x;split at hm
  ·rename_i cs hcs;cases hm;have ha:=zBC (hops x (by simp [Op.operands])) hcs;exact ⟨_,_,⟨w.heap.size,0,cs.length,cs.length,1⟩,by simp [execOp,Instr.box,newVar,newRow];rfl,zYw.alloc rfl fun β' id hl hmono=>⟨⟨_,hl,rfl,rfl,rfl,rfl,_,Go.heap_alloc_new w _,ha.mono hmono⟩,⟨_,hl,by simp,by simp⟩⟩⟩
  ·cases hm
 ·rename_i t
  have fin: ∀ {ob:Ob},(∀ (β':yR) (id:Nat),β'[id]? =some (some ⟨w.heap.size,0,0,0,0⟩)->zAf I β' (w.alloc (.map #[] 0)) id ob)->∃ v w' pl,(execOp ρ ⟨dst,.makeMap t none,type,pos,after,guard⟩).run P w= .ok (.value v) w'/\zYw I M w w' v pl ob .omp:=fun hob =>
   ⟨.map (some w.heap.size),w.alloc (.map #[] 0),⟨w.heap.size,0,0,0,0⟩,by simp [execOp,Instr.makeMap],zYw.alloc rfl fun β' id hl _=>⟨hob β' id hl,⟨_,hl,rfl,rfl⟩⟩⟩
  split at hm
  ·split at hm
   ·split at hm
    ·cases hm;exact fin fun β' id hl=>⟨by simp,_,#[],0,hl,(MapKept.heap_alloc w _).1,rfl,fun i x hx=>by simp at hx,⟨by simp,by simp⟩,by simp [MapKept.Stamped]⟩
    ·cases hm;exact fin fun β' id hl=>⟨by simp,_,#[],0,hl,(MapKept.heap_alloc w _).1,⟨rfl,MapKept.stamped_empty 0⟩,fun i x hx=>by simp at hx⟩
    ·cases hm
   ·cases hm
  ·cases hm
 ·rename_i t l c;split at hm
  ·rename_i u n cc hdc hl hc;split at hm
   ·rename_i ui hui
    have common: ∀ {e:ETy},ui.ety=some e->Nat.beq ui.bytes 0=false->(0<=n/\n<=cc/\cc*ui.bytes<=140737488355328)->
     ∃ (i:TypeInfo) (z:Value),i.size=ui.size/\z.cells=ui.zl.toArray/\ui.zl=e.zeroVals/\ui.size=e.size/\cc<=140737488355328/\
       (execOp ρ ⟨dst,.makeSlice t l c,type,pos,after,guard⟩).run P w= .ok (.value (.slice (some ⟨w.heap.size,0,none⟩) n.toNat cc.toNat)) (w.alloc (.cells (madeCells z.cells (cc.toNat*i.size)) u)):=by
     intro e hety hbz ⟨h0,h1,h2⟩;obtain ⟨hz,hs⟩:=hE _ _ hui _ hety;obtain ⟨i,z,hi,hsi,hbi,hzz,hzl⟩:=(hT _ _ hui).get;have e1:=hops l (by simp [Op.operands]);have e2:=hops c (by simp [Op.operands]);rw [hl] at e1;rw [hc] at e2;obtain ⟨e1,_⟩:=e1;obtain ⟨e2,hk2⟩:=e2;have hbne:ui.bytes≠0:=by intro e;rw [e] at hbz;cases hbz
     have hcb:cc<=140737488355328:=by
      have:cc*1<=cc*(ui.bytes:Int):=Int.mul_le_mul_of_nonneg_left (by omega) (by omega);omega
     have hzs:z.cells=ui.zl.toArray:=by rw [<- hzl]
     have hrun:=run_make (P:=P) w t u i z (hT.und hdc (by simp)) hi hzz .i64 .i64 n cc h0 h1 (by rw [hbi,Int.mul_comm];omega) (by omega);exact ⟨i,z,hsi,hzs,hz,hs,hcb,by simp [execOp,e1,e2,hrun]⟩
    split at hm
    ·rename_i e hety;split at hm
     ·rename_i hbz;cases hm;obtain ⟨i,z,hsi,hzs,hz,hs,hcb,hrun⟩:=common hety hbz hq;obtain ⟨h0,h1,h2⟩:=hq;have hs1:ui.size=1:=hs;have hcs:(madeCells z.cells (cc.toNat*i.size)).size=cc.toNat:=by rw [size_madeCells,hsi,hs1,Nat.mul_one]
      have hcc: ∀ v∈(madeCells z.cells (cc.toNat*i.size)).toList,v= .slice none 0 0:=by
       intro v hv;rw [hzs,hz] at hv;simp only [madeCells,Array.toList_map,yC] at hv;obtain ⟨k,_,rfl⟩:=hv;simp [ETy.zeroVals,Nat.mod_one]
      refine ⟨_,_,⟨w.heap.size,0,1,cc.toNat,n.toNat⟩,hrun,zYw.alloc rfl fun β' id hl _=>⟨⟨by simp;omega,_,hl,rfl,by simp,by simp;omega,_,Go.heap_alloc_new w _,hcs,fun i' x hx=> ?_,fun v hv=> .inl (hcc v (zb1 (zbL hv))),?_⟩,?_⟩⟩
      ·have hi:=(zK.1 hx).1;simp only [zbc] at hi;rw [zbI,if_pos hi] at hx;cases hx;refine ⟨.slice none 0 0,⟨none,0,rfl,by simp,by simp,fun h=>(h rfl).elim⟩,?_⟩;have hlt:i'<(madeCells z.cells (cc.toNat*i.size)).toList.length:=by rw [zcD,hcs];omega
       rw [zD,<- zM,zG hlt,hcc _ (yQ _)]
      ·refine List.Pairwise.imp_of_mem (R:=fun _ _=>True) ?_ (List.pairwise_of_forall fun _ _=>trivial);intro v v' hv _ _ b o' n' c' b2 o2 n2 c2 e1;rw [hcc v (zb1 (zbL hv))] at e1;cases e1
      ·simp only [y5,hl];exact ⟨_,cc.toNat,rfl,by omega,.inr (by simp),by simp,by simp⟩
     ·cases hm
    ·rename_i e hno hety;split at hm
     ·rename_i hbz;cases hm;obtain ⟨i,z,hsi,hzs,hz,hs,hcb,hrun⟩:=common hety hbz hq;obtain ⟨h0,h1,h2⟩:=hq;refine ⟨_,_,⟨w.heap.size,0,e.size,cc.toNat*e.size,n.toNat⟩,hrun,zYw.alloc rfl fun β' id hl _=>⟨?_,?_⟩⟩
      ·refine ⟨by simp;omega,?_⟩;simp only [hl];refine ⟨trivial,by simp,by rw [zD];exact zbE _ (by omega),_,Go.heap_alloc_new w _,by rw [size_madeCells,hsi,hs],fun i' x hx=> ?_⟩;have hr:=zJR (I:=I) hz cc.toNat;rw [<- hs,<- hsi,<- hzs] at hr;have hi':=(zK.1 hx).1;simp at hi'
       have hx':(List.replicate cc.toNat e.dflt)[i']? =some x:=by
        rw [zbI,if_pos (by omega)] at hx ⊢;exact hx
       obtain ⟨d,f1,f2⟩:=hr i' x hx';exact ⟨d,f1,fun j v hj=>by rw [<- zM];exact f2 j v hj⟩
      ·simp only [y5,hl];exact ⟨_,cc.toNat,rfl,by omega,.inr (by simp),by simp,by simp⟩
     ·cases hm
    ·cases hm
   ·cases hm
  ·cases hm
 ·cases hm
theorem GG.reviveG (h:GG B I M st tmps w) {id:Nat} (hdd:M[id]? =some dead) {d:Option Tmp} (hd:zBE d tmps) {v:Value} {pl:Bk} {ob:Ob} {ref:Nat->AS} (hm:zYw I M w w' v pl ob ref) :
 GG B I (M.set id (some pl)) (({st with hp:=(id,ob)::st.hp} :St).put d (.s (ref id))) (zHa tmps d v) w':=by
 have hid:id<M.length:=(zK.1 hdd).1;have hlast:(M.set id (some pl))[id]? =some (some pl):=by simp [hid]
 have hold: ∀ {i:Nat},i≠id->(M.set id (some pl))[i]? =M[i]? :=fun hi=>zba (Ne.symm hi);have hsig: ∀ b o,I b=some o->b<w.heap.size:=fun b o e=>h.mem.ag.lt e;have hw:=hm.old;obtain ⟨hob,hrv⟩:=hm.at_ _ _ hlast fun _ _=>y5.revive hdd _;refine GG.put (st:= {st with hp:=(id,ob)::st.hp}) ⟨⟨fun b o e=> ?_,fun id' ob' hi=> ?_⟩,fun t=>(h.env t).map fun _ _=>y5.revive hdd _,by simp [h.len],fun id' ob' p hi hp=> ?_,h.bel.trans (hm.bel _ h.bel.size),h.grew⟩ hd hrv
 ·rw [hw b (hsig b o e)];exact h.mem.ag _ _ e
 ·simp only [yL] at hi;split at hi
  ·rename_i e;subst e;cases hi;exact hob
  ·rename_i hne;exact (h.mem.ob _ _ hi).revive hdd (Ne.symm hne) _ (fun p hp=>hw _ ((h.mem.ob _ _ hi).lt hp)) fun b o e=>hw b (hsig b o e)
 ·simp only [yL] at hi;split at hi
  ·rename_i e;subst e;rw [hlast] at hp;cases hp;refine ⟨?_,by rw [hm.new];exact h.bel.size,fun id2 ob2 p2 hne hi2 hp2=> ?_⟩
   ·rw [hm.new];cases e:I w.heap.size with
    | none=>rfl
    | some o=>have:=hsig _ _ e;omega
   ·simp only [yL] at hi2;rw [if_neg (Ne.symm hne)] at hi2;rw [hold hne] at hp2;have:=(h.mem.ob _ _ hi2).lt hp2;rw [hm.new];omega
  ·rename_i hne;rw [hold (Ne.symm hne)] at hp;obtain ⟨s1,s2,s3⟩:=h.sep _ _ _ hi hp;refine ⟨s1,s2,fun id2 ob2 p2 hne2 hi2 hp2=> ?_⟩;simp only [yL] at hi2;split at hi2
   ·rename_i e;subst e;rw [hlast] at hp2;cases hp2;have:=(h.mem.ob _ _ hi).lt hp;rw [hm.new];omega
   ·rename_i hne';rw [hold (Ne.symm hne')] at hp2;exact s3 _ _ _ hne2 hi2 hp2
theorem GG.reviveQ (h:GG B I M st tmps w) {id:Nat} (hdd:M[id]? =some dead) {e:ETy} {u:TypeId} {xs:List e.T} {q:Option Bk} (ho:zAf I [q] w 0 (.row e u xs))
 (hs: ∀ p,q=some p->I p.b=none/\B.w.heap.size<=p.b/\∀ id ob p',hget st.hp id=some ob->M[id]? =some (some p')->p'.b≠p.b) :
 GG B I (M.set id q) {st with hp:=(id,.row e u xs)::st.hp} tmps w:=by
 have hid:id<M.length:=(zK.1 hdd).1;have hlast:(M.set id q)[id]? =some q:=by simp [hid]
 have hold: ∀ {i:Nat},i≠id->(M.set id q)[i]? =M[i]? :=fun hi=>zba (Ne.symm hi);refine ⟨⟨h.mem.ag,fun id' ob' hi=> ?_⟩,fun t=>(h.env t).map fun _ _=>y5.revive hdd _,by simp [h.len],fun id' ob' p hi hp=> ?_,h.bel,h.grew⟩
 ·simp only [yL] at hi;split at hi
  ·rename_i e;subst e;cases hi;exact ho.move (by rw [hlast];rfl)
  ·rename_i hne;exact (h.mem.ob _ _ hi).revive hdd (Ne.symm hne) _ (fun p hp=>rfl) fun b o e=>rfl
 ·simp only [yL] at hi;split at hi
  ·rename_i e;subst e;rw [hlast] at hp;have hq:=Option.some.inj hp;obtain ⟨s1,s2,s3⟩:=hs p hq;refine ⟨s1,s2,fun id2 ob2 p2 hne hi2 hp2=> ?_⟩;simp only [yL] at hi2;rw [if_neg (Ne.symm hne)] at hi2;rw [hold hne] at hp2;exact s3 _ _ _ hi2 hp2
  ·rename_i hne;rw [hold (Ne.symm hne)] at hp;obtain ⟨s1,s2,s3⟩:=h.sep _ _ _ hi hp;refine ⟨s1,s2,fun id2 ob2 p2 hne2 hi2 hp2=> ?_⟩;simp only [yL] at hi2;split at hi2
   ·rename_i e;subst e;rw [hlast] at hp2;exact fun e=>(hs p2 (Option.some.inj hp2)).2.2 _ _ _ hi hp e.symm
   ·rename_i hne';rw [hold (Ne.symm hne')] at hp2;exact s3 _ _ _ hne2 hi2 hp2
theorem zPR {T:Tab} {hp:jJ} {a:AV} (h:a.clear=true):a.viewT T hp=a:=by
 have one: ∀ a:AS,a.clear=true->Vm.viewT T hp a=a:=fun a h=>by cases a<;>first|rfl|cases h
 cases a with
 | s a=>exact congrArg AV.s (one a h)
 | agg l =>
   have all: ∀ l:List AS,l.all AS.clear=true->l.map (Vm.viewT T hp)=l:=fun l=>by
    induction l with
    | nil=>exact fun _=>rfl
    | cons a l ih =>
      intro h;simp only [zb2,zC] at h;rw [zbk,one a h.1,ih h.2]
   exact congrArg AV.agg (all l h)
 | tup l=>cases h
theorem zJB {T:Tab} {hp:jJ} : ∀ {l:List AV},l.all AV.clear=true->l.map (AV.viewT T hp)=l
 | [],_=>rfl
 | a::l,h=>by
   simp only [zb2,zC] at h;rw [zbk,zPR h.1,zJB h.2]
theorem zKi {hp:jJ} : ∀ {l:List AV} {ds:List Value},l.all AV.clear=true->jH I M l ds->jH I [] l ds
 | [],[],_,_=>trivial
 | [],_::_,_,h=>h.elim
 | _::_,[],_,h=>h.elim
 | a::l,d::ds,h,hr=>by
   simp only [zb2,zC] at h;exact ⟨(AV.clear_repT (T:=⟨[],[],[]⟩) (hp:=hp) h.1 hr.1).2,zKi (hp:=hp) h.2 hr.2⟩
theorem zIQ {op:Op} {ev:Operand->AV} {q:Option Prop} {ob:Ob} {ref:Nat->AS} (hm:zFK T op ev=some (q,ob,ref)) :
 ∃ c f g n,∃ (e:ETy) (u:TypeId) (xs:List e.T),op= .call c/\c.callee= .value (.func f)/\zFP T.fr f=some (.res g)/\(c.args.toList.map ev).all AV.clear=true/\g (c.args.toList.map ev)=some (none,q,.s (.own 0 0 n),[.row e u xs])/\ob= .row e u xs/\ref=fun i=> .own i 0 n:=by
 unfold zFK at hm;split at hm
 case h_2=>cases hm
 rename_i c;split at hm
 case h_2=>cases hm
 rename_i f hf;split at hm
 case h_2=>cases hm
 rename_i g hg;split at hm
 case h_2=>cases hm
 rename_i n q' e u xs h1 h2;cases hm;exact ⟨_,_,_,_,_,_,_,rfl,hf,hg,h1,h2,rfl,rfl⟩
theorem zOz {ob:Ob} {ref:Nat->AS} {q0:Option Prop} (hm:zFK T o.op (y7 st.env)=some (q0,ob,ref)):zCG T o st=some (none,q0,st.mk' o.dst ob ref):=by
 obtain ⟨c,f,g,n,e,u,xs,h1,h2,h3,h4,h5,rfl,rfl⟩:=zIQ hm;obtain ⟨dst,op,type,pos,after,guard⟩:=o;obtain ⟨callee,args,ts⟩:=c;change op=_ at h1;change callee=_ at h2;subst h1;subst h2;change (args.toList.map (y7 st.env)).all AV.clear=true at h4;change g (args.toList.map (y7 st.env))=_ at h5;simp only [zCG,zAU];simp only [zQl,h3,zJB h4,h5,h4,Bool.true_or];rfl
variable {N:Nat} {a:Act} {r:Option Nat} {n:Nat} {ops:Array Oper} {Q:Exit->Act->World->Prop}
def zFY (T:Tab) (o:Oper) (s s':St):Prop :=
 (j0 o.op=true/\∃ p q v,jO T o.op (y7 s.env) s.hp=some (p,q,v)/\Opt q/\s'=s.put o.dst v)\/
 (z0E o.op=true/\∃ q ob ref,zMl T o.op (y7 s.env)=some (q,ob,ref)/\Opt q/\s'=s.mk' o.dst ob ref)\/
 (∃ q ob ref,zFK T o.op (y7 s.env)=some (q,ob,ref)/\Opt q/\s'=s.mk' o.dst ob ref)
theorem zWr {s s':St} {p q:Option Prop} (hm:z0E o.op=true) (h:zBr T true o s=some (p,q,s')): ∃ ob ref,zMl T o.op (y7 s.env)=some (q,ob,ref)/\p=none/\s'=s.mk' o.dst ob ref:=by
 have hcs:jY T o s=none:=by
  unfold jY
  have:jO T o.op (y7 s.env) s.hp=none:=by
   obtain ⟨dst,op,type,pos,after,guard⟩:=o;cases op<;>first|rfl|cases hm
  rw [this]
 unfold zBr at h;simp only [hcs] at h;have h:=zKT h;cases hk:zMl T o.op (y7 s.env) with
 | some x =>
   obtain ⟨q0,ob,ref⟩:=x;rw [zWF hk] at h;cases h;exact ⟨ob,ref,rfl,rfl,rfl⟩
 | none =>
   exfalso;obtain ⟨dst,op,type,pos,after,guard⟩:=o;change z0E op=true at hm;change zMl T op (y7 s.env)=none at hk;cases op
   case alloc t _ =>
    simp only [zCG] at h;simp only [zMl] at hk;split at h
    ·rename_i ti hti;simp [hti] at hk
    ·cases h
   case box t x _ =>
    simp only [zCG] at h;simp only [zMl] at hk;split at h
    ·rename_i cs hcs;simp [hcs] at hk
    ·cases h
   case makeMap t c _ =>
    cases c with
    | some c=>cases hm
    | none =>
      simp only [zCG] at h;simp only [zMl] at hk;simp only [zGK] at h;split at h
      ·rename_i k v hd;simp only [hd] at hk;split at h
       ·rename_i ki vi h1 h2;simp only [h1,h2] at hk;split at h
        ·rename_i ek e h3 h4;simp [h3,h4] at hk
        ·rename_i ek ev hno h3 h4;rw [h3,h4] at hk;split at hk
         ·cases hk
         ·cases hk
         ·rename_i hx;exact hx _ _ rfl rfl
        ·cases h
       ·cases h
      ·cases h
   case makeSlice t l c _ =>
    simp only [zCG] at h;simp only [zMl] at hk;simp only [zDF] at h;split at h
    ·rename_i u n cc hd h1 h2;simp only [hd,h1,h2] at hk;split at h
     ·rename_i ui hui;simp only [hui] at hk;split at h
      ·rename_i e he;simp only [he] at hk;split at h
       ·rename_i hb;simp [hb] at hk
       ·cases h
      ·rename_i e hno he;rw [he] at hk;split at h
       ·rename_i hb;split at hk
        ·simp [hb] at hk
        ·simp [hb] at hk
        ·rename_i e1;cases e1
       ·cases h
      ·cases h
     ·cases h
    ·cases h
   all_goals cases hm
theorem zNB (R:jM P T) {K:St->Prop} (rest:List Oper): ∀ (l:List Oper) {st:St} {a:Act} {w:World},(∀ o∈l,yT N o=true/\o.guard=none/\(j0 o.op|| z0E o.op)=true)->GA B N st a w->zAN T true ops (l++rest) st K->
 ∃ S:Nat->St,S 0=st/\(∀ i o,l[i]? =some o->zFY T o (S i) (S (i+1)))/\(∀ i,i<=l.length->∃ a w,GA B N (S i) a w)/\zAN T true ops rest (S l.length) K
 | [],st,a,w,_,h,hk=>⟨fun _=>st,rfl,fun i o e=>by simp at e,fun _ _=>⟨a,w,h⟩,hk⟩
 | o :: l, st,a,w,hall,h,hk=>by
   obtain ⟨ho,hg,hc⟩:=hall o (by simp);simp only [zcA,zAN,hg,aop,zSI,St.force_eq] at hk
   have go : ∀ {p q:Option Prop} {st':St},zBr T true o st=some (p,q,st')->Opt q->zAN T true ops (l++rest) st' K->
    ∃ S:Nat->St,S 0=st/\(∀ i o',(o::l)[i]? =some o'->zFY T o' (S i) (S (i+1)))/\(∀ i,i<=(o::l).length->∃ a w,GA B N (S i) a w)/\zAN T true ops rest (S (o::l).length) K:=by
    intro p q st' hs hq hk;obtain ⟨a',w',h'⟩:=zD2 (r:=none) (n:=0) ((zCq R h ho hs).2 hq (K:=fun a' w'=>GA B N st' a' w') fun _ _ hh=>hh);obtain ⟨S,s0,s1,s2,s3⟩:=zNB R rest l (fun o' ho'=>hall o' (by simp [ho'])) h' hk
    have step:zFY T o st st':=by
     rw [zbA] at hc;rcases hc with hc|hc
     ·refine .inl ⟨hc,?_⟩;unfold zBr at hs;simp only at hs;cases hcs:jY T o st with
      | none=>rw [hcs] at hs;simp only at hs;rw [zFo hc hcs] at hs;cases hs
      | some res =>
        rw [hcs] at hs;simp only at hs;cases hs;unfold jY at hcs;split at hcs
        ·rename_i p' q' v hv;cases hcs;exact ⟨_,_,_,hv,hq,rfl⟩
        ·cases hcs
     ·obtain ⟨ob,ref,e1,e2,e3⟩:=zWr hc hs;exact .inr (.inl ⟨hc,q,ob,ref,e1,hq,e3⟩)
    refine ⟨fun i=>match i with|0=>st|i+1=>S i,rfl,fun i o' e=> ?_,fun i hi=> ?_,s3⟩
    ·cases i with
     | zero=>simp at e;subst e;show zFY T o st (S 0);rw [s0];exact step
     | succ i=>exact s1 i o' (by simpa using e)
    ·cases i with
     | zero=>exact ⟨a,w,h⟩
     | succ i=>exact s2 i (by simpa using hi)
   split at hk
   ·rename_i st' hs;exact go hs trivial hk
   ·rename_i p st' hs;exact go hs trivial (hk.out (zCq (r:=none) (n:=0) R h ho hs).1)
   ·rename_i q st' hs;obtain ⟨k1,k2⟩:=hk.out;exact go hs k1 k2
   ·rename_i p q st' hs;obtain ⟨k1,k2⟩:=(hk.out (zCq (r:=none) (n:=0) R h ho hs).1).out;exact go hs k1 k2
   ·exact hk.elim
theorem zKM (R:jM P T) {K:St->Prop} (rest:List Oper): ∀ (l:List Oper) {st:St} {a:Act} {w:World},(∀ o∈l,yT N o=true/\o.guard=none/\(j0 o.op|| z0E o.op)=true)->GA B N st a w->zIl T ops l.length (l++rest) st K->
 ∃ S:Nat->St,S 0=st/\(∀ i o,l[i]? =some o->zFY T o (S i) (S (i+1)))/\(∀ i,i<=l.length->∃ a w,GA B N (S i) a w)/\zAN T true ops rest (S l.length) K
 | [],st,a,w,_,h,hk=>⟨fun _=>st,rfl,fun i o e=>by simp at e,fun _ _=>⟨a,w,h⟩,by
     unfold zIl at hk
     exact hk⟩
 | o :: l, st,a,w,hall,h,hk=>by
   obtain ⟨ho,hg,hc⟩:=hall o (by simp)
   have go: ∀ {draw:Bool} {p q:Option Prop} {st':St},zFY T o st st'->zBr T draw o st=some (p,q,st')->Opt q->zIl T ops l.length (l++rest) st' K->
    ∃ S:Nat->St,S 0=st/\(∀ i o',(o::l)[i]? =some o'->zFY T o' (S i) (S (i+1)))/\(∀ i,i<=(o::l).length->∃ a w,GA B N (S i) a w)/\zAN T true ops rest (S (o::l).length) K:=by
    intro draw p q st' step hs hq hk;obtain ⟨a',w',h'⟩:=zD2 (r:=none) (n:=0) ((zCq R h ho hs).2 hq (K:=fun a' w'=>GA B N st' a' w') fun _ _ hh=>hh);obtain ⟨S,s0,s1,s2,s3⟩:=zKM R rest l (fun o' ho'=>hall o' (by simp [ho'])) h' hk;refine ⟨fun i=>match i with|0=>st|i+1=>S i,rfl,fun i o' e=> ?_,fun i hi=> ?_,s3⟩
    ·cases i with
     | zero=>simp at e;subst e;show zFY T o st (S 0);rw [s0];exact step
     | succ i=>exact s1 i o' (by simpa using e)
    ·cases i with
     | zero=>exact ⟨a,w,h⟩
     | succ i=>exact s2 i (by simpa using hi)
   simp only [yA,zcA,zIl,zSI,St.force_eq] at hk;cases hm:zFK T o.op (y7 st.env) with
   | some res =>
     obtain ⟨q,ob,ref⟩:=res;rw [hm] at hk
     have hst:zBr T false o st=some (none,q,st.mk' o.dst ob ref):=by
      unfold zBr;simp only [zOz hm]
     cases q with
     | none=>exact go (.inr (.inr ⟨none,ob,ref,hm,trivial,rfl⟩)) hst trivial hk
     | some q=>obtain ⟨k1,k2⟩:=hk.out;exact go (.inr (.inr ⟨some q,ob,ref,hm,k1,rfl⟩)) hst k1 k2
   | none =>
     rw [hm] at hk
     have step: ∀ {p q:Option Prop} {st':St},zBr T true o st=some (p,q,st')->Opt q->zFY T o st st':=fun {p q st'} hs hq=>by
      rw [zbA] at hc;rcases hc with hc|hc
      ·refine .inl ⟨hc,?_⟩;unfold zBr at hs;simp only at hs;cases hcs:jY T o st with
       | none=>rw [hcs] at hs;simp only at hs;rw [zFo hc hcs] at hs;cases hs
       | some res =>
         rw [hcs] at hs;simp only at hs;cases hs;unfold jY at hcs;split at hcs
         ·rename_i p' q' v hv;cases hcs;exact ⟨_,_,_,hv,hq,rfl⟩
         ·cases hcs
      ·obtain ⟨ob,ref,e1,e2,e3⟩:=zWr hc hs;exact .inr (.inl ⟨hc,q,ob,ref,e1,hq,e3⟩)
     simp only at hk;split at hk
     ·rename_i st' hs;exact go (step hs trivial) hs trivial hk
     ·rename_i p st' hs;exact go (step hs trivial) hs trivial (hk.out (zCq (r:=none) (n:=0) R h ho hs).1)
     ·rename_i q st' hs;obtain ⟨k1,k2⟩:=hk.out;exact go (step hs k1) hs k1 k2
     ·rename_i p q st' hs;obtain ⟨k1,k2⟩:=(hk.out (zCq (r:=none) (n:=0) R h ho hs).1).out;exact go (step hs k1) hs k1 k2
     ·exact hk.elim
structure Ssa (ops:Array Oper) (k:Nat):Prop where
 get: ∀ i,i<k->∃ o d,ops[i]? =some o/\o.guard=none/\o.dst=some d/\(j0 o.op|| z0E o.op)=true/\∀ e∈o.after,Region.binds .any e=true->e.on<i
 one: ∀ i j o oj d,i<k->j<k->ops[i]? =some o->ops[j]? =some oj->o.dst=some d->oj.dst=some d->j=i
 reads: ∀ i j o oj d,i<k->j<k->ops[i]? =some o->ops[j]? =some oj->oj.dst=some d->.tmp d∈o.op.operands->j<i/\zHT ops i j=true
theorem z61 {k:Nat} (h:(List.range k).all (zVg ops k)=true):Ssa ops k:=by
 have key: ∀ i,i<k->zVg ops k i=true:=fun i hi=>zJ.1 h i (zV.2 hi)
 have inner: ∀ i j o oj d,i<k->j<k->ops[i]? =some o->ops[j]? =some oj->oj.dst=some d->(Nat.beq j i|| !(o.dst==some d))=true/\(!(zKp o).contains d|| (Nat.blt j i&&zHT ops i j))=true:=by
  intro i j o oj d hi hj ho hoj hd;have h1:=key i hi;unfold zVg at h1;rw [ho] at h1;simp only [zC] at h1;have h2:=zJ.1 h1.2 j (zV.2 hj);rw [hoj] at h2;simp only [hd,zC] at h2;exact h2
 refine ⟨fun i hi=> ?_,fun i j o oj d hi hj ho hoj hd hd'=> ?_,fun i j o oj d hi hj ho hoj hd hx=> ?_⟩
 ·have h1:=key i hi;unfold zVg at h1;split at h1
  ·rename_i o ho;simp only [zC] at h1;obtain ⟨⟨⟨⟨h2,h3⟩,h4⟩,h5⟩,_⟩:=h1;obtain ⟨d,hd⟩:=zbt.1 h3;refine ⟨o,d,ho,by simpa using h2,hd,h4,fun e he hb=> ?_⟩;have:=zJ.1 h5 e (by simpa using he);rw [hb] at this;simp only [Bool.not_true,Bool.false_or] at this;exact zCj this
  ·cases h1
 ·have:=(inner i j o oj d hi hj ho hoj hd').1;rw [hd] at this;simp at this;exact this
 ·have:=(inner i j o oj d hi hj ho hoj hd).2
  have hm:(zKp o).contains d=true:=by
   simp only [List.contains_iff_mem,zKp,List.mem_filterMap];exact ⟨_,by simpa using hx,rfl⟩
  rw [hm] at this;simp only [Bool.not_true,Bool.false_or,zC] at this;exact ⟨zCj this.1,this.2⟩
structure Run (T:Tab) (B:Base) (N:Nat) (ops:Array Oper) (k:Nat) (S:Nat->St):Prop where
 step: ∀ i o,i<k->ops[i]? =some o->zFY T o (S i) (S (i+1))
 real: ∀ i,i<=k->∃ (a:Act) (w:World),GA B N (S i) a w
def MkI (S:Nat->St) (k i:Nat):Prop:=i<k/\(S (i+1)).next=(S i).next+1
theorem zFY.heap {s s':St} (h:zFY T o s s'):(s'.hp=s.hp/\s'.next=s.next)\/(∃ ob,s'.hp=(s.next,ob)::s.hp/\s'.next=s.next+1):=by
 have mk: ∀ {ob:Ob} {ref:Nat->AS},∃ ob',(s.mk' o.dst ob ref).hp=(s.next,ob')::s.hp/\(s.mk' o.dst ob ref).next=s.next+1:=fun {ob ref} =>⟨ob,by unfold St.mk';cases o.dst<;>rfl,by unfold St.mk';cases o.dst<;>rfl⟩
 rcases h with ⟨hc,p,q,v,_,_,rfl⟩|⟨hm,q,ob,ref,_,_,rfl⟩|⟨q,ob,ref,_,_,rfl⟩
 ·exact .inl ⟨by cases o.dst<;>rfl,by cases o.dst<;>rfl⟩
 ·exact .inr mk
 ·exact .inr mk
theorem zFY.env {s s':St} (h:zFY T o s s') {t:Tmp} (ht:o.dst≠some t):yZ s'.env t=yZ s.env t:=by
 have put: ∀ (st:St) (v:AV),yZ (st.put o.dst v).env t=yZ st.env t:=fun st v=>by
  cases hd:o.dst with
  | none=>rfl
  | some d =>
    show yZ ((d,v)::st.env) t=_;rw [qR,if_neg (by rintro rfl;exact ht hd)]
 rcases h with ⟨_,p,q,v,_,_,rfl⟩|⟨_,q,ob,ref,_,_,rfl⟩|⟨q,ob,ref,_,_,rfl⟩
 ·exact put _ _
 ·unfold St.mk';rw [put]
 ·unfold St.mk';rw [put]
variable {k:Nat} {S:Nat->St}
theorem Run.keep (hS:Run T B N ops k S) (hO:Ssa ops k) (i:Nat): ∀ d,i+d<=k->(S i).next<=(S (i+d)).next/\∀ id,id<(S i).next->hget (S (i+d)).hp id=hget (S i).hp id
 | 0,_=>⟨zI _,fun _ _=>rfl⟩
 | d +1,h=>by
   obtain ⟨h1,h2⟩:=Run.keep hS hO i d (by omega);obtain ⟨o,dd,ho,_⟩:=hO.get (i+d) (by omega);rcases (hS.step (i+d) o (by omega) ho).heap with ⟨e1,e2⟩|⟨ob,e1,e2⟩
   ·refine ⟨by show _<=(S (i+d+1)).next;rw [e2];exact h1,fun id hid=> ?_⟩;show hget (S (i+d+1)).hp id=_;rw [e1];exact h2 id hid
   ·refine ⟨by show _<=(S (i+d+1)).next;rw [e2];omega,fun id hid=> ?_⟩;show hget (S (i+d+1)).hp id=_;rw [e1,yL,if_neg (by omega)];exact h2 id hid
theorem Run.keep' (hS:Run T B N ops k S) (hO:Ssa ops k) {i j:Nat} (h:i<=j) (hj:j<=k):(S i).next<=(S j).next/\∀ id,id<(S i).next->hget (S j).hp id=hget (S i).hp id:=by
 have:=hS.keep hO i (j - i) (by omega);rwa [show i+(j - i)=j by omega] at this
theorem Run.env (hS:Run T B N ops k S) (hO:Ssa ops k) {t:Tmp} (i:Nat): ∀ d,i+d<=k->(∀ j o,i<=j->j<i+d->ops[j]? =some o->o.dst≠some t)->yZ (S (i+d)).env t=yZ (S i).env t
 | 0,_,_=>rfl
 | d+1,h,hn=>by
   obtain ⟨o,dd,ho,_⟩:=hO.get (i+d) (by omega);show yZ (S (i+d+1)).env t=_;rw [(hS.step (i+d) o (by omega) ho).env (hn (i+d) o (by omega) (by omega) ho)];exact Run.env hS hO i d (by omega) fun j o h1 h2=>hn j o h1 (by omega)
theorem Run.env' (hS:Run T B N ops k S) (hO:Ssa ops k) {t:Tmp} {i j:Nat} (h:i<=j) (hj:j<=k) (hn: ∀ m o,i<=m->m<j->ops[m]? =some o->o.dst≠some t):yZ (S j).env t=yZ (S i).env t:=by
 have:=hS.env hO (t:=t) i (j - i) (by omega) (fun m o h1 h2=>hn m o h1 (by omega));rwa [show i+(j - i)=j by omega] at this
theorem Run.whose (hS:Run T B N ops k S) (hO:Ssa ops k): ∀ j,j<=k->∀ id,id<(S j).next->id<(S 0).next\/∃ i,i<j/\MkI S k i/\id=(S i).next
 | 0,_,id,h=> .inl h
 | j + 1,hj,id,h=>by
   obtain ⟨o,dd,ho,_⟩:=hO.get j (by omega);rcases (hS.step j o (by omega) ho).heap with ⟨e1,e2⟩|⟨ob,e1,e2⟩
   ·rw [e2] at h;rcases Run.whose hS hO j (by omega) id h with h|⟨i,h1,h2,h3⟩
    ·exact .inl h
    ·exact .inr ⟨i,by omega,h2,h3⟩
   ·rw [e2] at h
    by_cases e:id=(S j).next
    ·exact .inr ⟨j,by omega,⟨by omega,e2⟩,e⟩
    ·rcases Run.whose hS hO j (by omega) id (by omega) with h|⟨i,h1,h2,h3⟩
     ·exact .inl h
     ·exact .inr ⟨i,by omega,h2,h3⟩
theorem Run.lt (hS:Run T B N ops k S) (hO:Ssa ops k) {i j:Nat} (hi:MkI S k i) (h:i<j) (hj:j<=k):(S i).next<(S j).next:=by
 obtain ⟨hik,e2⟩:=hi;have:=(hS.keep' hO (i:=i+1) (j:=j) (by omega) hj).1;omega
structure RD (B:Base) (N:Nat) (ops:Array Oper) (k:Nat) (S:Nat->St) (listed:Array Bool) (a:Act) (w:World) (env:Env) (hp':jJ) (M:yR):Prop where
 gb:GB B N M ⟨env,hp',(S k).next⟩ a w
 done: ∀ i o d,i<k->ops[i]? =some o->o.dst=some d->listed.getD i true=true->yZ env d=yZ (S k).env d
 was: ∀ t,(∀ i o,i<k->ops[i]? =some o->o.dst=some t->listed.getD i true=false)->yZ env t=yZ (S 0).env t
 old: ∀ id,id<(S 0).next->hget hp' id=hget (S 0).hp id
 made: ∀ i,MkI S k i->listed.getD i true=true->hget hp' (S i).next=hget (S k).hp (S i).next
 wait: ∀ i,MkI S k i->listed.getD i true=false->M[(S i).next]? =some dead
 none: ∀ id,(∀ ob,hget (S k).hp id≠some ob)->hget hp' id=Option.none
 nob: ∀ i,MkI S k i->listed.getD i true=false->hget hp' (S i).next=Option.none
def AS.notId (id:Nat):AS->Prop
 | .own i _ _=>i≠id
 | .ptr i _ _=>i≠id
 | .pti i _ _=>i≠id
 | .omp i=>i≠id
 | .arr i _=>i≠id
 | _=>True
theorem zG1 {id:Nat} (hdd:M[id]? =some dead) {a:AS} {v:Value} (h:y5 I M a v):a.notId id:=by
 cases a with
 | own i s n =>
   rintro rfl;simp only [y5] at h;rw [hdd] at h;simp only [dead] at h;obtain ⟨a,cap,_,_,_,h1,_⟩:=h;omega
 | ptr i j k =>
   rintro rfl;obtain ⟨p,e,r,hl⟩:=h;rw [hdd] at e;cases e;exact absurd hl (by simp)
 | pti i j k =>
   rintro rfl;obtain ⟨p,e,r,hl,hs⟩:=h;rw [hdd] at e;cases e;exact absurd hl (by simp)
 | omp i =>
   rintro rfl;obtain ⟨p,e,r,hl⟩:=h;rw [hdd] at e;cases e;exact absurd hl (by simp)
 | arr i n =>
   rintro rfl;obtain ⟨p,e,r,hl,hs⟩:=h;rw [hdd] at e;cases e;exact absurd hs (by simp)
 | _=>trivial
theorem z29 {Pr:Nat->Bool} {m:Nat} (hPr: ∀ id,id<m->id<M.length->M[id]? ≠some dead->Pr id=true) {a:AS} {v:Value} (h:y5 I M a v) (hm:a.idsBelow m=true):a.okP Pr=true:=by
 have hl:=h.low;cases a with
 | own i s n=>exact hPr i (zCj hm) (zCj hl) fun e=>zG1 e h rfl
 | ptr i j k=>exact hPr i (zCj hm) (zCj hl) fun e=>zG1 e h rfl
 | pti i j k=>exact hPr i (zCj hm) (zCj hl) fun e=>zG1 e h rfl
 | omp i=>exact hPr i (zCj hm) (zCj hl) fun e=>zG1 e h rfl
 | arr i n=>exact hPr i (zCj hm) (zCj hl) fun e=>zG1 e h rfl
 | _=>rfl
theorem zG7 {Pr:Nat->Bool} {m:Nat} (hPr: ∀ id,id<m->id<M.length->M[id]? ≠some dead->Pr id=true): ∀ {l:List AS} {ds:List Value},jQ (y5 I M) l ds->l.all (AS.idsBelow m)=true->l.all (AS.okP Pr)=true
 | [],[],_,_=>rfl
 | a::l,d::ds,h,hm=>by
   simp only [zb2,zC] at hm ⊢;exact ⟨z29 hPr h.1 hm.1,zG7 hPr h.2 hm.2⟩
 | [],_::_,h,_=>h.elim
 | _::_,[],h,_=>h.elim
theorem zWf {Pr:Nat->Bool} {m:Nat} (hPr: ∀ id,id<m->id<M.length->M[id]? ≠some dead->Pr id=true) {a:AV} {v:Value} (h:y6 I M a v) (hm:a.low m):a.okP Pr:=by
 cases a with
 | s a=>exact z29 hPr h hm
 | agg l=>obtain ⟨ds,_,r⟩:=h;exact zG7 hPr r hm
 | tup l=>trivial
theorem zSn {op:Op} {ev ev':Operand->AV} (h: ∀ x∈op.operands,ev x=ev' x):zMl T op ev=zMl T op ev':=by
 cases op<;>first|rfl|skip
 case box t x=>simp only [zMl];rw [h x (by simp [Op.operands])]
 case makeMap t x=>cases x<;>rfl
 case makeSlice t l c=>simp only [zMl];rw [h l (by simp [Op.operands]),h c (by simp [Op.operands])]
theorem zRg {l:Array Bool} {i:Nat} (h:l.getD i false=true):l.getD i true=true:=by
 rcases Nat.lt_or_ge i l.size with h'|h'
 ·simpa [zL,h'] using h
 ·simp [zL,zbZ h']
theorem zMx {op:Op} {ev ev':Operand->AV} (h: ∀ x∈op.operands,ev x=ev' x):zFK T op ev=zFK T op ev':=by
 cases op<;>first|rfl|skip
 case call c =>
  have:c.args.toList.map ev=c.args.toList.map ev':=zbN fun x hx=>h x (by
   simp [Op.operands,Call.operands];right;simpa using hx)
  simp only [zFK,this]
theorem z0A (R:jM P T) {env:Env} {hp:jJ} {nx:Nat} (h:GB B N M ⟨env,hp,nx⟩ a w) {o:Oper} (ho:yT N o=true) {id:Nat} (hdd:M[id]? =some dead) {q:Option Prop} {ob:Ob} {ref:Nat->AS}
 (hm:zFK T o.op (y7 env)=some (q,ob,ref)) (hq:Opt q) {K:Act->World->Prop} {Q:Exit->Act->World->Prop} (hK: ∀ a' w' q',GB B N (M.set id q') ((⟨env,(id,ob)::hp,nx⟩:St).put o.dst (.s (ref id))) a' w'->K a' w'):o.wpIn (FR r) n P a w K Q:=by
 obtain ⟨c,f,g,m,e,u,xs,h1,h2,h3,h4,h5,rfl,rfl⟩:=zIQ hm;obtain ⟨I,hg⟩:=h.gg;have hd:=zAb h.size ho
 have hops: ∀ x∈o.op.operands,y6 I M (y7 env x) (a.eval x):=fun x hx=>by
  simp only [yT,zC,zJ] at ho;exact jP hg (ho.2 x (by simpa using hx))
 obtain ⟨callee,args,ts⟩:=c;change callee=_ at h2;subst h2;have nodefer: ∀ c,o.op≠.defer c:=by intro c e;rw [h1] at e;cases e
 have hargs:jH I M (args.toList.map (y7 env)) (args.toList.map a.eval):=zCV fun x hx=>hops x (by simp [h1,Op.operands,Call.operands];right;simpa using hx);obtain ⟨fn,k3,k4,k5⟩:=R.fr.fn _ _ h3;have hcalls:=(R.fr.ok _ _ h3 _ _ h5 I _ w hg.mem.ag (zKi (hp:=hp) h4 hargs)).2 hq;refine ⟨fun f _=>trivial,?_⟩;rw [Oper.semAt_eq _ _ _ nodefer,zFv (ρ:=a.eval) h1 rfl k3 k4 k5];refine ⟨(fun e=>by cases e),?_⟩;have e1:(args.toList.map a.eval).toArray=args.map a.eval:=by rw [<- Array.toList_map]
 rw [e1] at hcalls;refine (zCJ r _ hcalls).mono fun en w' ⟨v,σ',β',e1,e2,e3,e4,e5,e6,e7⟩=> ?_;subst e1
 match β',e6 with
 | [q'],e6 =>
   obtain ⟨_,f2,f3,_⟩:=e6
   have hg1:=(hg.world e2 e3 e4 e7).reviveQ hdd f2 fun p hp=>⟨(f3 p hp).1,zb0 hg.bel.size (f3 p hp).2.1,fun id' ob' p' hi hp'=>by
    have:=(hg.mem.ob _ _ hi).lt hp';have:=(f3 p hp).2.1
    omega⟩
   refine hK _ _ q' (zCf h.defers h.size ⟨σ',hg1.put hd ?_⟩);have hid:id<M.length:=(zK.1 hdd).1;have hlast:(M.set id q')[id]? =some q':=by simp [hid]
   have e5:y5 σ' [q'] (.own 0 0 m) v:=e5;show y5 σ' (M.set id q') (.own id 0 m) v;simp only [y5,hlast];simp only [y5] at e5;exact e5
open Classical in
theorem z11 (R:jM P T) (hO:Ssa ops k) (hS:Run T B N ops k S) (hall: ∀ (i:Nat) (o:Oper),ops[i]? =some o->yT N o=true) {listed:Array Bool} (dn:Dn ops listed) {env:Env} {hp':jJ} (hr:RD B N ops k S listed a w env hp' M)
 {i:Nat} (hi:i∈Region.ready .any ops listed) (hik:i<k) {K:Act->World->Prop} (hK: ∀ a' w' env' hp2 β',RD B N ops k S (listed.setIfInBounds i true) a' w' env' hp2 β'->K a' w'):wpOpIn (FR r) n P ops Q i K a w:=by
 obtain ⟨hun,o,ho,hedge⟩:=mem_ready.1 hi;obtain ⟨o',d,ho',hg,hd,hc,_⟩:=hO.get i hik;rw [ho] at ho';cases ho';have hop:=hall i o ho;have setne: ∀ {j:Nat},j≠i->(listed.setIfInBounds i true).getD j true=listed.getD j true:=fun {j} hne=>getD_set_ne true (Ne.symm hne);have zA6:(listed.setIfInBounds i true).getD i true=true:=jA;unfold wpOpIn;simp only [ho];rw [if_pos (by simp [Region.wanted,hg])]
 have hopnd: ∀ x∈o.op.operands,y7 env x=y7 (S i).env x:=by
  intro x hx;cases x with
  | tmp t =>
    show yZ env t=yZ (S i).env t
    by_cases hdef: ∃ j oj,j<k/\ops[j]? =some oj/\oj.dst=some t
    ·obtain ⟨j,oj,hj,hoj,hdj⟩:=hdef;obtain ⟨hji,htw⟩:=hO.reads i j o oj t hik hj ho hoj hdj hx;have hl:listed.getD j false=true:=zFf dn htw (fun o' ho'' e he hb=>by rw [ho] at ho'';cases ho'';exact hedge e he hb);rw [hr.done j oj t hj hoj hdj (zRg hl)];exact hS.env' hO (i:=i) (j:=k) (by omega) (zI _) (fun m om h1 h2 hom e=>by have:=hO.one j m oj om t hj h2 hoj hom hdj e;omega)
    ·rw [hr.was t (fun j oj hj hoj hdj=>absurd ⟨j,oj,hj,hoj,hdj⟩ hdef)];exact (hS.env' hO (i:=0) (j:=i) (by omega) (by omega) (fun m om _ h2 hom e=>hdef ⟨m,om,by omega,hom,e⟩)).symm
  | const=>rfl
  | global=>rfl
  | func=>rfl
 have hops: ∀ {I:Sig},GG B I M ⟨env,hp',(S k).next⟩ a.tmps w->∀ x∈o.op.operands,y6 I M (y7 env x) (a.eval x):=fun hgg x hx=>by
  simp only [yT,zC,zJ] at hop;exact jP hgg (hop.2 x (by simpa using hx))
 obtain ⟨I,hgg⟩:=hr.gb.gg
 have envDone: ∀ {v:AV},yZ (S k).env d=v->∀ j oj d',j<k->ops[j]? =some oj->oj.dst=some d'->(listed.setIfInBounds i true).getD j true=true->yZ ((d,v)::env) d'=yZ (S k).env d':=by
  intro v hv j oj d' hj hoj hdj hl;rw [qR];split
  ·rename_i e;subst e;exact hv.symm
  ·rename_i hne;refine hr.done j oj d' hj hoj hdj ?_
   by_cases e:j=i
   ·subst e;rw [ho] at hoj;cases hoj;rw [hd] at hdj;cases hdj;exact (hne rfl).elim
   ·rw [<- setne e];exact hl
 have envWas: ∀ {v:AV} (t:Tmp),(∀ j oj,j<k->ops[j]? =some oj->oj.dst=some t->(listed.setIfInBounds i true).getD j true=false)->yZ ((d,v)::env) t=yZ (S 0).env t:=by
  intro v t ht;rw [qR];split
  ·rename_i e;subst e;have:=ht i o hik ho hd;rw [zA6] at this;cases this
  ·refine hr.was t fun j oj hj hoj hdj=> ?_;have:=ht j oj hj hoj hdj
   by_cases e:j=i
   ·subst e;rw [zA6] at this;cases this
   ·rw [<- setne e];exact this
 have hStep:=hS.step i o hik ho
 have envK: ∀ {v:AV},yZ (S (i+1)).env d=v->yZ (S k).env d=v:=fun {v} hv=>by
  rw [<- hv];exact hS.env' hO (i:=i+1) (j:=k) (by omega) (zI _) (fun m om h1 h2 hom e=>by have:=hO.one i m o om d hik h2 ho hom hd e;omega)
 rcases hStep with ⟨hcalm,p,q,v,hac,hq,hS1⟩|⟨hmk,q,ob,ref,hmo,hq,hS1⟩|⟨q,ob,ref,hmc,hq,hS1⟩
 ·-- a calm one
  obtain ⟨a0,w0,hreal⟩:=hS.real i (by omega);obtain ⟨σ0,β0,hg0⟩:=hreal.gg
  let Pr:Nat->Bool:=fun id=>decide (id<(S i).next/\M[id]? ≠some dead)
  have hPr: ∀ id,id<(S i).next->id<M.length->M[id]? ≠some dead->Pr id=true:=fun id h1 _ h2=>decide_eq_true ⟨h1,h2⟩
  have hsame:zGB Pr (S i).hp hp':=by
   intro id hid;obtain ⟨h1,h2⟩:=of_decide_eq_true hid;rcases hS.whose hO i (by omega) id h1 with h|⟨j,hj,hmj,rfl⟩
   ·rw [hr.old id h,(hS.keep' hO (i:=0) (j:=i) (by omega) (by omega)).2 id h]
   ·have hl:listed.getD j true=true:=by
     cases hl:listed.getD j true with
     | true=>rfl
     | false=>exact absurd (hr.wait j hmj hl) h2
    rw [hr.made j hmj hl,(hS.keep' hO (i:=i) (j:=k) (by omega) (zI _)).2 _ h1]
  have hlow0: ∀ x∈o.op.operands,(y7 (S i).env x).low (S i).next:=fun x hx=>by
   simp only [yT,zC,zJ] at hop;have:=(jP hg0 (hop.2 x (by simpa using hx))).low;rw [hg0.len] at this;exact this
  have hokP: ∀ x∈o.op.operands,(y7 (S i).env x).okP Pr:=fun x hx=>by
   rw [<- hopnd x hx];exact zWf hPr (hops hgg x hx) (by rw [hopnd x hx];exact hlow0 x hx)
  have hflat:zGW Pr (S i).hp:=by
   intro id t cs hid hgt;have h1:hget hp' id=some (.flat t cs):=by rw [hsame id hid];exact hgt
   obtain ⟨p1,_,_,_,_,_,c1,_,r1⟩:=hgg.mem.ob _ _ h1;obtain ⟨p2,_,_,_,_,_,c2,_,r2⟩:=hg0.mem.ob _ _ hgt;have:=zHz r2;rw [hg0.len] at this;exact zG7 hPr r1 this
  have hac':jO T o.op (y7 env) hp'=some (p,q,v):=by
   rw [qF hopnd,zDR hokP hsame hflat];exact hac
  refine (zLS R hr.gb hop hac').2 hq fun a' w' hgb=> ?_;rw [hd] at hgb
  have hv:yZ (S (i+1)).env d=v:=by
   rw [hS1,hd];show yZ ((d,v)::_) d=v;rw [qR,if_pos rfl]
  have notMk: ∀ j,MkI S k j->j≠i:=fun j hj e=>by
   subst e;have e1:(S (j+1)).next=(S j).next:=by rw [hS1];cases o.dst<;>rfl
   have:=hj.2;omega
  exact hK a' w' ((d,v)::env) hp' M ⟨hgb,envDone (envK hv),envWas,hr.old,fun j hj hl=>hr.made j hj (by rw [<- setne (notMk j hj)];exact hl),fun j hj hl=>hr.wait j hj (by rw [<- setne (notMk j hj)];exact hl),hr.none,
   fun j hj hl=>hr.nob j hj (by rw [<- setne (notMk j hj)];exact hl)⟩
 ·-- one that makes a thing
  have hmi:MkI S k i:=⟨hik,by rw [hS1];unfold St.mk';cases o.dst<;>rfl⟩;rw [<- zSn hopnd] at hmo;obtain ⟨v,w',pl,hrun,hM⟩:=zTF (I:=I) (M:=M) (w:=w) (ρ:=a.eval) R.ty R.ety (hops hgg) hmo hq;have hg':=hgg.reviveG (hr.wait i hmi hun) (zAb hr.gb.size hop) hM
  have hob:hget (S k).hp (S i).next=some ob:=by
   have e1:hget (S (i+1)).hp (S i).next=some ob:=by
    have:(S (i+1)).hp=((S i).next,ob)::(S i).hp:=by rw [hS1];unfold St.mk';cases o.dst<;>rfl
    rw [this,yL,if_pos rfl]
   rw [(hS.keep' hO (i:=i+1) (j:=k) (by omega) (zI _)).2 _ (hS.lt hO hmi (by omega) (by omega))];exact e1
  have hv:yZ (S (i+1)).env d= .s (ref (S i).next):=by
   have:(S (i+1)).env=(d,.s (ref (S i).next))::(S i).env:=by rw [hS1,hd];rfl
   rw [this,qR,if_pos rfl]
  have apart: ∀ j,MkI S k j->j≠i->(S j).next≠(S i).next:=fun j hj hne=>by
   rcases Nat.lt_or_gt_of_ne hne with h|h
   ·have:=hS.lt hO hj h (by omega);omega
   ·have:=hS.lt hO hmi h (by have:=hj.1;omega);omega
  refine ⟨fun f _=>trivial,?_⟩;rw [Oper.semAt_eq _ _ _ (by intro c e;rw [e] at hmk;cases hmk),hrun]
  have hgb:GB B N (M.set (S i).next (some pl)) ⟨(d,.s (ref (S i).next))::env,((S i).next,ob)::hp',(S k).next⟩ (a.put o.dst v) w':=by
   refine zCf hr.gb.defers hr.gb.size ⟨I,?_⟩;rw [hd] at hg' ⊢;exact hg'
  refine hK _ _ _ _ _ ⟨hgb,envDone (envK hv),envWas,fun id hid=> ?_,fun j hj hl=> ?_,fun j hj hl=> ?_,fun id hid=> ?_,fun j hj hl=> ?_⟩
  ·rw [yL,if_neg (by have:=(hS.keep' hO (i:=0) (j:=i) (by omega) (by omega)).1;omega)];exact hr.old id hid
  ·rw [yL]
   by_cases e:j=i
   ·subst e;rw [if_pos rfl,hob]
   ·rw [if_neg (Ne.symm (apart j hj e))];exact hr.made j hj (by rw [<- setne e];exact hl)
  ·have e:j≠i:=by rintro rfl;rw [zA6] at hl;cases hl
   rw [zba (Ne.symm (apart j hj e))];exact hr.wait j hj (by rw [<- setne e];exact hl)
  ·rw [yL,if_neg (by rintro rfl;exact hid ob hob)];exact hr.none id hid
  ·have e:j≠i:=by rintro rfl;rw [zA6] at hl;cases hl
   rw [yL,if_neg (Ne.symm (apart j hj e))];exact hr.nob j hj (by rw [<- setne e];exact hl)
 ·-- a call that hands a row over
  have hmi:MkI S k i:=⟨hik,by rw [hS1];unfold St.mk';cases o.dst<;>rfl⟩;rw [<- zMx hopnd] at hmc
  have hob:hget (S k).hp (S i).next=some ob:=by
   have e1:hget (S (i+1)).hp (S i).next=some ob:=by
    have:(S (i+1)).hp=((S i).next,ob)::(S i).hp:=by rw [hS1];unfold St.mk';cases o.dst<;>rfl
    rw [this,yL,if_pos rfl]
   rw [(hS.keep' hO (i:=i+1) (j:=k) (by omega) (zI _)).2 _ (hS.lt hO hmi (by omega) (by omega))];exact e1
  have hv:yZ (S (i+1)).env d= .s (ref (S i).next):=by
   have:(S (i+1)).env=(d,.s (ref (S i).next))::(S i).env:=by rw [hS1,hd];rfl
   rw [this,qR,if_pos rfl]
  have apart: ∀ j,MkI S k j->j≠i->(S j).next≠(S i).next:=fun j hj hne=>by
   rcases Nat.lt_or_gt_of_ne hne with h|h
   ·have:=hS.lt hO hj h (by omega);omega
   ·have:=hS.lt hO hmi h (by have:=hj.1;omega);omega
  refine z0A R hr.gb hop (hr.wait i hmi hun) hmc hq fun a' w' q' hgb=> ?_;rw [hd] at hgb;refine hK _ _ _ _ _ ⟨hgb,envDone (envK hv),envWas,fun id hid=> ?_,fun j hj hl=> ?_,fun j hj hl=> ?_,fun id hid=> ?_,fun j hj hl=> ?_⟩
  ·rw [yL,if_neg (by have:=(hS.keep' hO (i:=0) (j:=i) (by omega) (by omega)).1;omega)];exact hr.old id hid
  ·rw [yL]
   by_cases e:j=i
   ·subst e;rw [if_pos rfl,hob]
   ·rw [if_neg (Ne.symm (apart j hj e))];exact hr.made j hj (by rw [<- setne e];exact hl)
  ·have e:j≠i:=by rintro rfl;rw [zA6] at hl;cases hl
   rw [zba (Ne.symm (apart j hj e))];exact hr.wait j hj (by rw [<- setne e];exact hl)
  ·rw [yL,if_neg (by rintro rfl;exact hid ob hob)];exact hr.none id hid
  ·have e:j≠i:=by rintro rfl;rw [zA6] at hl;cases hl
   rw [yL,if_neg (Ne.symm (apart j hj e))];exact hr.nob j hj (by rw [<- setne e];exact hl)
def left (listed:Array Bool) (k:Nat):Nat:=((List.range k).filter fun i=> !listed.getD i true).length
theorem zVb {listed:Array Bool} {k:Nat} (h:left listed k=0): ∀ i<k,listed.getD i true=true:=by
 intro i hi;cases hl:listed.getD i true with
 | true=>rfl
 | false =>
   have hm:i∈(List.range k).filter fun i=> !listed.getD i true:=zb5.2 ⟨zV.2 hi,by rw [hl];rfl⟩;rw [zbh.1 h] at hm;cases hm
theorem zKZ {listed:Array Bool} {i:Nat} (hl:listed.getD i true=false): ∀ {l:List Nat},l.Nodup->i∈l->
 (l.filter fun j=> !listed.getD j true).length=(l.filter fun j=> !(listed.setIfInBounds i true).getD j true).length+1
 | b ::l,hn,hm=>by
   obtain ⟨hb,hn⟩:=zbG.1 hn
   have same: ∀ l:List Nat,i∉l->(l.filter fun j=> !listed.getD j true)=l.filter fun j=> !(listed.setIfInBounds i true).getD j true:=fun l hil =>
    List.filter_congr fun j hj=>by rw [getD_set_ne true (by rintro rfl;exact hil hj)]
   rcases zT.1 hm with e|hm
   ·subst e;rw [zbP (by rw [hl];rfl),zb3 (by rw [jA];simp),same l hb];rfl
   ·have hne:b≠i:=by rintro rfl;exact hb hm
    have ih:=zKZ hl hn hm
    by_cases hp:listed.getD b true=false
    ·rw [zbP (by rw [hp];rfl),zbP (by rw [getD_set_ne true (Ne.symm hne),hp];rfl)];simp only [yA];omega
    ·rw [zb3 (by simpa using hp),zb3 (by rw [getD_set_ne true (Ne.symm hne)];simpa using hp)];exact ih
theorem zZn {listed:Array Bool} {i k:Nat} (hl:listed.getD i true=false) (hi:i<k):left listed k=left (listed.setIfInBounds i true) k+1 :=
 zKZ hl List.nodup_range (zV.2 hi)
theorem zUV (R:jM P T) (hO:Ssa ops k) (hS:Run T B N ops k S) (hk:k<=ops.size) (hneed: ∀ j,k<=j->j<ops.size->zCT ops j [j]=true) (hall: ∀ (i:Nat) (o:Oper),ops[i]? =some o->yT N o=true) {fuel:Nat} (lk:Array Bool)
 (htail: ∀ (a:Act) (w:World) (listed:Array Bool) (env:Env) (hp':jJ) (M:yR),(∀ i<k,listed.getD i true=true)->(∀ i,listed.getD i true=lk.getD i true)->listed.size=lk.size->RD B N ops k S listed a w env hp' M->wpAnyIn (FR r) n P .any ops Q fuel listed a w) :
 ∀ (m:Nat) (listed:Array Bool) (a:Act) (w:World) (env:Env) (hp':jJ) (M:yR),left listed k=m->Dn ops listed->listed.size=ops.size->(∀ i,k<=i->listed.getD i true=lk.getD i true)->(∀ i<k,lk.getD i true=true)->listed.size=lk.size->RD B N ops k S listed a w env hp' M->
   wpAnyIn (FR r) n P .any ops Q (m+fuel) listed a w
 | 0,listed,a,w,env,hp',M,hm,dn,hsz,hl1,hl2,hs,hr=>by
   rw [zD];have h1:=zVb hm;refine htail a w listed env hp' M h1 (fun i=> ?_) hs hr
   by_cases hi:i<k
   ·rw [h1 i hi,hl2 i hi]
   ·exact hl1 i (by omega)
 | m + 1,listed,a,w,env,hp',M,hm,dn,hsz,hl1,hl2,hs,hr=>by
   rw [show m+1+fuel=(m+fuel)+1 by omega]
   -- the first that is not listed
   have hex: ∃ i,i<k/\listed.getD i true=false:=by
    have:((List.range k).filter fun i=> !listed.getD i true)≠[]:=by
     intro e;have:left listed k=0:=by unfold left;rw [e];rfl
     omega
    obtain ⟨i,hi⟩:=List.exists_mem_of_ne_nil _ this;obtain ⟨h1,h2⟩:=zb5.1 hi;exact ⟨i,zV.1 h1,by simpa using h2⟩
   have hfalse: ∀ {j:Nat},j<ops.size->listed.getD j true=true->listed.getD j false=true:=fun {j} hj h=>by
    simpa [zL,hsz,hj] using h
   have hready:Region.ready .any ops listed≠[]:=by
    obtain ⟨i,hi⟩: ∃ i,(i<k/\listed.getD i true=false)/\∀ j,j<i->¬ (j<k/\listed.getD j true=false):=by
     obtain ⟨i,hi⟩:=hex
     induction i using Nat.strongRecOn with
     | ind i ih =>
       by_cases h: ∃ j,j<i/\(j<k/\listed.getD j true=false)
       ·obtain ⟨j,h1,h2⟩:=h;exact ih j h1 h2
       ·exact ⟨i,hi,fun j h1 h2=>h ⟨j,h1,h2⟩⟩
    obtain ⟨⟨hik,hun⟩,hmin⟩:=hi;obtain ⟨o,d,ho,_,_,_,hedge⟩:=hO.get i hik
    have:i∈Region.ready .any ops listed:=mem_ready.2 ⟨hun,o,ho,fun e he hb=>by
     have hlt:=hedge e he hb;refine hfalse (by omega) ?_;cases hl:listed.getD e.on true with
     | true=>rfl
     | false=>exact absurd ⟨by omega,hl⟩ (hmin e.on hlt)⟩
    intro e;rw [e] at this;cases this
   refine ⟨fun h0=>(hready h0).elim,fun i hi=> ?_⟩;have hun:=(mem_ready.1 hi).1;have hdn:=dn.set hi
   have hik:i<k:=by
    refine Nat.lt_of_not_le fun hki=> ?_
    have hisz:i<ops.size:=by
     refine Nat.lt_of_not_le fun h=> ?_;rw [zL,zbZ (by omega)] at hun;cases hun
    obtain ⟨j,hj,hjl⟩:=hex
    have:=zDO (k:=ops.size) (listed:=listed.setIfInBounds i true) (fun j1 i1 h1 h2 h3=>by
     have h4:(listed.setIfInBounds i true).getD j1 false=true:=by simpa [zL,hsz,h1] using h2
     exact zRg (hdn j1 i1 h4 h3)) i [i] (hneed i hki hisz) (fun j1 h1=>by
     rw [zF.1 h1];exact ⟨hisz,jA⟩) (by omega) j (by omega)
    rw [getD_set_ne true (by omega)] at this;rw [hjl] at this;cases this
   refine z11 R hO hS hall dn hr hi hik fun a' w' env' hp2 β' hr'=> ?_;refine zUV R hO hS hk hneed hall lk htail m _ a' w' env' hp2 β' ?_ hdn (by simpa using hsz) (fun j hj=> ?_) hl2 (by simpa using hs) hr'
   ·have:=zZn hun hik;omega
   ·rw [getD_set_ne true (by omega)];exact hl1 j hj
end
end Go.Vm
