/- A part of the proofs of the laws. -/
import Derived.Control
import Derived.Calls
import Derived.Orders
import Derived.WalkKit
import Derived.Below
import Derived.MapKept
import Derived.Laws.StructEq
import Derived.IntWalk
set_option linter.unusedSimpArgs false
set_option linter.unusedVariables false
set_option maxHeartbeats 8000000
set_option maxRecDepth 100000
namespace Go.Vm
theorem zA:∀ (a b : Bool), ((a && b) = true) = (a = true /\ b = true):=@Bool.and_eq_true
theorem zC:∀ {n m : Nat}, Nat.beq n m = true -> n = m:=@Nat.eq_of_beq_eq_true
theorem zG.{u_1}:∀ {α : Type u_1} {i : Nat} {a : α} {l : List α}, l[i]? = some a ↔ ∃ (h : i < List.length l), l[i] = a:=@List.getElem?_eq_some_iff
theorem zB.{u_1}:∀ {α : Type u_1} {l : List α} {i : Nat} (_ : i < List.length l), l[i]? = some l[i]:=@List.getElem?_eq_getElem
theorem zD.{u_1}:∀ {α : Type u_1} {a b : α}, a ∈ [b] ↔ a = b:=@List.mem_singleton
theorem zJ.{u_1}:∀ {α : Type u_1} {xs : Array α} {i : Nat}, (Array.toList xs)[i]? = xs[i]?:=@Array.getElem?_toList
theorem zI:∀ (n : Nat), n <= n:=@Nat.le_refl
theorem z7.{u_1}:∀ {α : Type u_1} {as bs : List α}, List.length (as ++ bs) = List.length as + List.length bs:=@List.length_append
theorem zK.{u_1}:∀ {α : Type u_1} {xs : Array α} {i : Nat} {d : α}, Array.getD xs i d = Option.getD xs[i]? d:=@Array.getD_eq_getD_getElem?
theorem zO.{u_1}:∀ {α : Type u_1} {p : α -> Bool} {l : List α}, List.all l p = true ↔ ∀ (x : α), x ∈ l -> p x = true:=@List.all_eq_true
theorem zW:∀ {m n : Nat}, m ∈ List.range n ↔ m < n:=@List.mem_range
theorem zR.{u_1}:∀ {α : Type u_1} {i : Nat} {b : α} {xs : Array α}, xs[i]? = some b ↔ ∃ (h : i < Array.size xs), xs[i] = b:=@Array.getElem?_eq_some_iff
theorem zT:True:=@True.intro
theorem zU:∀ {n m : Nat}, Nat.ble n m = true -> n <= m:=@Nat.le_of_ble_eq_true
theorem zM.{u_1}:∀ {α : Type u_1} (y : α) {a : α} {l : List α}, a ∈ l -> a ∈ y :: l:=@List.mem_cons_of_mem
theorem zP.{u_1}:∀ {α : Type u_1} {b : α} {l : List α} {a : α}, a ∈ b :: l ↔ a = b \/ a ∈ l:=@List.mem_cons
theorem zY.{u_1}:∀ {α : Type u_1} {a : α} {s t : List α}, a ∈ s ++ t ↔ a ∈ s \/ a ∈ t:=@List.mem_append
theorem zQ.{u_1}:∀ {α : Type u_1} {a : α} {l : List α}, a ∈ a :: l:=@List.mem_cons_self
theorem yG.{u_1}:∀ {α : Type u_1} {a : α} {l : List α}, a ∈ l ↔ ∃ (i : Nat), ∃ (h : i < List.length l), l[i] = a:=@List.mem_iff_getElem
theorem zZ.{u_1}:∀ {α : Type u_1} {a : α} {as : List α}, List.length (a :: as) = List.length as + 1:=rfl
theorem yK:∀ (n : Nat), 0 + n = n:=@Nat.zero_add
theorem yH:∀ {a b : Prop}, a -> b -> a /\ b:=@And.intro
theorem yJ.{u_1}:∀ {α : Type u_1} {i : Nat} {l : List α} (h : i < List.length l), List.take (i + 1) l = List.take i l ++ [l[i]]:=@List.take_succ_eq_append_getElem
theorem zF:∀ {p : Prop} [Decidable p], (decide p = true) = p:=@decide_eq_true_eq
theorem y6.{u_1}:∀ {α : Type u_1} {l : List α} {n : Nat} (h : n < List.length l), l[n] ∈ l:=@List.getElem_mem
theorem y5.{u_1}:∀ {α : Sort u_1} {p : α -> Prop} (w : α), p w -> Exists p:=@Exists.intro
theorem zS.{u_1,u_2}:∀ {α : Type u_1} {β : Type u_2} {b : β} {f : α -> β} {l : List α}, b ∈ List.map f l ↔ ∃ (a : α), a ∈ l /\ f a = b:=@List.mem_map
theorem z2.{u_1,u_2}:∀ {α : Type u_1} {β : Type u_2} {as : List α} (f : α -> β), List.length (List.map f as) = List.length as:=@List.length_map
theorem zB0:∀ {p : Prop} {x : Decidable p}, decide p = false ↔ ¬p:=@decide_eq_false_iff_not
theorem yE:∀ {p : Prop}, (¬p -> False) -> p:=@Classical.byContradiction
theorem zAU.{u_1}:∀ {α : Type u_1} (i : Nat) (l : List α), List.take i l ++ List.drop i l = l:=@List.take_append_drop
theorem zAN.{u_1}:∀ {α : Type u_1} {i : Nat} {l : List α}, List.length (List.take i l) = min i (List.length l):=@List.length_take
theorem zH.{u_1}:∀ {α : Type u_1} {l : List α} {i : Nat} {a : α}, List.getD l i a = Option.getD l[i]? a:=@List.getD_eq_getElem?_getD
theorem zDg:∀ {n : Nat}, List.length (List.range n) = n:=@List.length_range
theorem zA4:∀ {a : Int}, 0 <= a -> ↑(Int.toNat a) = a:=@Int.toNat_of_nonneg
abbrev zL:=@Result.andThen_ok
abbrev zN:=@Sem.run_bind
abbrev yD:=@Nat.mul_le_mul_right
abbrev yO:=@Bool.or_eq_true
abbrev yF:=@List.getElem?_append_left
abbrev yP:=@List.mem_of_getElem?
abbrev jC:=@List.filterMap_eq_nil_iff
abbrev yS:=@List.getElem?_take
abbrev yU:=@List.getElem?_replicate
abbrev yW:=@List.append_nil
abbrev yT:=@List.getElem?_set_self
abbrev jR:=@List.take_of_length_le
abbrev yX:=@Array.getElem?_eq_none
abbrev jB:=@Nat.zero_le
abbrev y8:=@Bool.not_eq_true'
abbrev qJ:=@List.take_length
abbrev qF:=@Nat.beq_refl
abbrev qI:=@List.getElem?_set
abbrev qL:=@Option.getD_some
abbrev qT:=@Nat.le_trans
abbrev qP:=@List.getElem?_set_ne
abbrev qR:=@Array.getElem?_setIfInBounds
abbrev qD:=@Sem.run_pure
abbrev yQ:=@List.nodup_cons
abbrev qY:=@List.getElem?_append_right
abbrev yV:=@List.filter_cons_of_pos
abbrev qS:=@List.all_cons
abbrev j5:=@List.drop_zero
abbrev zDD:=@List.length_eq_zero_iff
abbrev jS:=@List.drop_eq_nil_of_le
abbrev jU:=@List.getElem?_drop
abbrev zAQ:=@List.map_congr_left
abbrev zAR:=@List.length_pos_iff
abbrev qW:=@List.nodup_nil
abbrev zA0:=@Bool.not_eq_true
abbrev qC:=@List.filter_cons_of_neg
abbrev zAB:=@List.getElem?_map
abbrev zAP:=@Nat.add_assoc
abbrev zAE:=@List.mem_of_mem_drop
abbrev jH:=@List.length_replicate
abbrev zAV:=@Option.some.injEq
abbrev qZ:=@List.length_set
abbrev jV:=@List.map_cons
abbrev zAs:=@List.mem_iff_getElem?
abbrev zAd:=@List.mem_of_mem_take
abbrev zHR:=@List.append_assoc
abbrev zA7:=@List.mem_append_right
abbrev zBx:=@List.getElem?_eq_none
abbrev zBO:=@Array.getElem?_replicate
abbrev zBP:=@Option.isSome_iff_exists
abbrev z3c:=@List.foldl_append
abbrev zB1:=@Prod.mk.injEq
abbrev zA8:=@List.map_append
abbrev zAF:=@List.mem_append_left
abbrev zCZ:=@List.cons_append
abbrev zAO:=@List.not_mem_nil
abbrev zBX:=@Nat.add_zero
abbrev zBQ:=@List.nil_append
abbrev zE1:=@List.length_drop
abbrev zFZ:=@Array.length_toList
abbrev zJH:=@List.getElem?_cons_succ
abbrev zJI:=@List.getElem?_cons_zero
abbrev z4W:=@List.any_eq_true
inductive ETy where
 | int (k:IntKind)
 | bool
 | arr2
 | arr3
 | pair (a b:ETy)
 | sl (e:ETy)
 | mp (k v:ETy)
 | pt (e:ETy)
 | unit
 | fnc
 deriving DecidableEq
@[reducible] def ETy.T:ETy->Type
  | .int _=>Int
  | .bool=>Bool
  | .arr2=>Int×Int
  | .arr3=>Int×Int×Int
  | .pair a b=>a.T×b.T
  | .sl e=>List e.T
  | .mp k v=>List (k.T×v.T)
  | .pt e=>Option e.T
  | .unit=>Unit
  | .fnc=>Option Nat
def ETy.dflt:(e:ETy)->e.T
 | .int _=>(0:Int)
 | .bool=>false
 | .arr2=>((0:Int),(0:Int))
 | .arr3=>((0:Int),(0:Int),(0:Int))
 | .pair a b=>(a.dflt,b.dflt)
 | .sl _=>[]
 | .mp _ _=>[]
 | .pt _=>none
 | .unit=>()
 | .fnc=>none
def ETy.size:ETy->Nat
 | .int _=>1
 | .bool=>1
 | .arr2=>2
 | .arr3=>3
 | .pair a b=>a.size+b.size
 | .sl _=>1
 | .mp _ _=>1
 | .pt _=>1
 | .unit=>0
 | .fnc=>1
structure PtV where
 e:ETy
 x:e.T
inductive AS where
 | int (k:IntKind) (n:Int)
 | bool (b:Bool)
 | val (v:Value)
 | sl (e:ETy) (xs:List e.T)
 | mp (k v:ETy) (m:List (k.T×v.T))
 | pt (e:ETy) (o:Option e.T)
 | ip (e:ETy) (x:e.T) (k:Nat)
 | own (id start len:Nat)
 | ipi (e:ETy) (x:e.T) (k:Nat)
 | ptr (id i k:Nat)
 | pti (id i k:Nat)
 | omp (id:Nat)
 | arr (id n:Nat)
 | clo (f:Nat) (ps:List PtV)
 | nq (neg:Bool) (e:ETy) (xs:List e.T)
 | emp (e:ETy)
 | junk
inductive AV where
 | s (a:AS)
 | agg (l:List AS)
 | tup (l:List AV)
@[reducible] def AV.junk:AV:= .s .junk
@[reducible] def AV.undef:AV:= .s (.val (.tuple #[]))
def fnV:Option Nat->Value
 | some f=> .func (.func f) #[] #[]
 | none=> .nilFunc
def ETy.cells:(e:ETy)->e.T->List AS
 | .int k,n=>[.int k n]
 | .bool,b=>[.bool b]
 | .arr2,x=>[.int .i64 x.1,.int .i64 x.2]
 | .arr3,x=>[.int .i64 x.1,.int .i64 x.2.1,.int .i64 x.2.2]
 | .pair a b,x=>a.cells x.1++b.cells x.2
 | .sl e,xs=>[.sl e xs]
 | .mp k v,m=>[.mp k v m]
 | .pt e,o=>[.pt e o]
 | .unit,_=>[]
 | .fnc,o=>[.val (fnV o)]
def zUE (k:IntKind):List AS->Option Int
 | [.int k' n]=>if k=k' then some n else none
 | _=>none
def zN2:List AS->Option Bool
 | [.bool b]=>some b
 | _=>none
def z2q:List AS->Option (Int×Int)
 | [.int .i64 a,.int .i64 b]=>some (a,b)
 | _=>none
def z20:List AS->Option (Int×Int×Int)
 | [.int .i64 a,.int .i64 b,.int .i64 c]=>some (a,b,c)
 | _=>none
def zZp (e:ETy):List AS->Option (List e.T)
 | [.sl e' xs]=>if h:e'=e then some (h▸xs) else none
 | [.val (.slice none 0 0)]=>some []
 | [.emp e']=>match decide (e'=e) with|true=>some []|false=>none
 | _=>none
def zYp (k v:ETy):List AS->Option (List (k.T×v.T))
 | [.mp k' v' m]=>if h:k'=k then (if h':v'=v then some (h▸h'▸m) else none) else none
 | _=>none
def zYC (e:ETy):List AS->Option (Option e.T)
 | [.pt e' x]=>if h:e'=e then some (h▸x) else none
 | [.val (.pointer none)]=>some none
 | _=>none
def zNp:List AS->Option Unit
 | []=>some ()
 | _=>none
def zR9:List AS->Option (Option Nat)
 | [.val (.func (.func f) ⟨[]⟩ ⟨[]⟩)]=>some (some f)
 | [.val .nilFunc]=>some none
 | _=>none
def ETy.dec:(e:ETy)->List AS->Option e.T
 | .int k,l=>zUE k l
 | .bool,l=>zN2 l
 | .arr2,l=>z2q l
 | .arr3,l=>z20 l
 | .pair a b,l=>match a.dec (l.take a.size),b.dec (l.drop a.size) with
   | some x,some y=>some (x,y)
   | _,_=>none
 | .sl e,l=>zZp e l
 | .mp k v,l=>zYp k v l
 | .pt e,l=>zYC e l
 | .unit,l=>zNp l
 | .fnc,l=>zR9 l
inductive Ob where
 | row (e:ETy) (T:TypeId) (xs:List e.T)
 | flat (T:TypeId) (cells:List AS)
 | map (k v:ETy) (m:List (k.T×v.T))
 | gmap (k e:ETy) (m:List (k.T×List e.T))
 | grow (e:ETy) (T:TypeId) (xss:List (List e.T))
 | fr (X:Array Value) (l:List (Nat×AV))
abbrev Env:=List (Nat×AV)
abbrev zAG:=List (Nat×Ob)
structure St where
 env:Env
 hp:zAG
 next:Nat
def qQ:Env->Nat->AV
 | [],_=> .junk
 | (k,v)::r,t=>match Nat.beq k t with|true=>v|false=>qQ r t
def hget:zAG->Nat->Option Ob
 | [],_=>none
 | (k,v)::r,t=>match Nat.beq k t with|true=>some v|false=>hget r t
def AS.ofVal:Value->AS
 | .int k n=> .int k n
 | .bool b=> .bool b
 | v=> .val v
structure TI where
 desc:TypeDesc
 size:Nat
 bytes:Nat
 zl:List Value
 ety:Option ETy
abbrev Res:=Option Prop×Option Prop×AV
abbrev zLe:=Option Prop×Option Prop×AV×List Ob
inductive FrE where
 | res (c:List AV->Option zLe)
 | run (h:List AV->St->(AV->St->Prop)->Prop)
structure Tab where
 ty:List (Nat×TI)
 fn:List (Nat×(List AV->Option Res))
 fr:List (Nat×FrE)
def zEt {α:Type} :List (Nat×α)->Nat->Option α
 | [],_=>none
 | (k,v)::r,t=>match Nat.beq k t with|true=>some v|false=>zEt r t
def Tab.info (T:Tab) (t:TypeId):Option TI:=zEt T.ty t
def Tab.has (T:Tab) (t:TypeId):Bool:=match zEt T.ty t with|some _=>true|none=>false
def Tab.sizeOf (T:Tab) (t:TypeId):Nat:=match zEt T.ty t with|some i=>i.size|none=>0
def Tab.desc (T:Tab) (t:TypeId):TypeDesc:=match zEt T.ty t with|some i=>i.desc|none=> .invalid
def ETy.zeroVals:ETy->List Value
 | .int k=>[.int k 0]
 | .bool=>[.bool false]
 | .arr2=>[.int .i64 0,.int .i64 0]
 | .arr3=>[.int .i64 0,.int .i64 0,.int .i64 0]
 | .pair a b=>a.zeroVals++b.zeroVals
 | .sl _=>[.slice none 0 0]
 | .mp _ _=>[.map none]
 | .pt _=>[.pointer none]
 | .unit=>[]
 | .fnc=>[.nilFunc]
def zGm:Value->Bool
 | .agg _=>false
 | .int k n=>k.wrap n==n
 | _=>true
def TI.zero (i:TI):List AS:=i.zl.map AS.ofVal
def zA6:TypeDesc->Bool
 | .struct _=>true
 | .array _ _=>true
 | _=>false
def AV.ofVal:Value->AV
 | .agg cs=> .agg (cs.toList.map AS.ofVal)
 | v=> .s (AS.ofVal v)
def jW (env:Env):Operand->AV
 | .tmp t=>qQ env t
 | .const v=>AV.ofVal v
 | .global _=> .junk
 | .func f=> .s (.val (.func (.func f) #[] #[]))
def AV.flat:AV->Option (List AS)
 | .s .junk=>none
 | .s a=>some [a]
 | .agg l=>some l
 | .tup _=>none
def zC3:List AS->Option (List Int)
 | []=>some []
 | .int .i64 n::r=>match zC3 r with|some l=>some (n::l)|none=>none
 | _=>none
def z03 (k:IntKind):List AS->Option (List Int)
 | []=>some []
 | .int k' n::r=>match decide (k'=k),z03 k r with
   | true,some l=>some (n::l)
   | _,_=>none
 | _=>none
def zEm (d:TypeDesc) (l:List AS):Option (IntKind×List Int) :=
 match d with
 | .int k=>match z03 k l with
   | some ns=>some (k,ns)
   | none=>none
 | _=>none
def part (agg:Bool) (l:List AS) (k m:Nat):AV :=
 match agg with
 | true=> .agg ((l.drop k).take m)
 | false=> .s (l.getD k .junk)
def Int.blt':Int->Bool
 | .ofNat _=>false
 | .negSucc _=>true
def zAL (n:Int):Prop:= -9223372036854775808<=n/\n<=9223372036854775807
def arith (k:IntKind) (n:Int):Res :=
 match k with
 | .i64=>(none,some (zAL n),.s (.int .i64 n))
 | k=>(none,none,.s (.int k (k.wrap n)))
def fitting (a b:Nat) (v:AV):Option Res:=match Nat.ble a b with|true=>some (none,none,v)|false=>none
def ok (v:AS):Option Res:=some (none,none,.s v)
def need (p:Prop) (v:AS):Option Res:=some (none,some p,.s v)
def zIh:List AS->List AS->Option Bool
 | [],[]=>some true
 | .int k a::l,.int k' b::m=>match decEq k k',zIh l m with
   | .isTrue _,some r=>some ((a==b)&&r)
   | _,_=>none
 | _,_=>none
def zUT (op:BinOp) (k:IntKind) (a b:Int):Option Res :=
 match op with
 | .add=>some (arith k (a+b))
 | .sub=>some (arith k (a - b))
 | .mul=>some (arith k (a*b))
 | .quo=>match arith k (a.tdiv b) with
   | (p,some q,v)=>some (p,some (b≠0/\q),v)
   | (p,none,v)=>some (p,some (b≠0),v)
 | .rem=>some (none,some (b≠0),.s (.int k (a.tmod b)))
 | .eql=>ok (.bool (a==b))
 | .neq=>ok (.bool (a != b))
 | .lss=>ok (.bool (decide (a<b)))
 | .leq=>ok (.bool (decide (a<=b)))
 | .gtr=>ok (.bool (decide (a>b)))
 | .geq=>ok (.bool (decide (a>=b)))
 | _=>none
def zGU (op:BinOp) (r:Bool):Option Res :=
 match op with
 | .eql=>ok (.bool r)
 | .neq=>ok (.bool (!r))
 | _=>none
def zWy (op:BinOp) (e:ETy) (xs:List e.T):Option Res :=
 match op with
 | .eql=>ok (.nq false e xs)
 | .neq=>ok (.nq true e xs)
 | _=>none
def zT0 (op:BinOp) (d:TypeDesc) (a b:AS):Option Res :=
 match d,a,b with
 | .pointer _,.pt _ o,.val (.pointer none)=>zGU op o.isNone
 | .pointer _,.val (.pointer none),.val (.pointer none)=>zGU op true
 | .pointer _,.ip _ _ _,.val (.pointer none)=>zGU op false
 | .pointer _,.ptr _ _ _,.val (.pointer none)=>zGU op false
 | .map _ _,.omp _,.val (.map none)=>zGU op false
 | .map _ _,.val (.map none),.val (.map none)=>zGU op true
 | .slice _,.sl e xs,.val (.slice none 0 0)=>zWy op e xs
 | .slice _,.own _ _ n,.val (.slice none 0 0)=>zWy op .unit (List.replicate n ())
 | .slice _,.val (.slice none 0 0),.val (.slice none 0 0)=>zGU op true
 | _,_,_=>none
def zCT (T:Tab):Nat->List Field->Bool
 | _,[]=>true
 | i,f::r=>match T.desc f.type with
   | .int _=>Nat.beq (T.sizeOf f.type) 1&&Nat.beq f.offset i&&zCT T (i+1) r
   | _=>false
def bin (T:Tab) (t:TypeId) (op:BinOp) (x y:AV):Option Res :=
 match x,y with
 | .s (.int k a),.s (.int k' b)=>match decEq k k' with
   | .isTrue _=>zUT op k a b
   | .isFalse _=>none
 | .s (.bool a),.s (.bool b)=>match T.desc t with
   | .bool=>zGU op (a==b)
   | _=>none
 | .agg l,.agg m=>match T.desc t with
   | .array n u=>match T.desc u,Nat.beq (T.sizeOf u) 1,Nat.beq l.length n,zIh l m with
     | .int _,true,true,some r=>zGU op r
     | _,_,_,_=>none
   | .struct fs=>match zCT T 0 fs.toList,Nat.beq l.length fs.toList.length,zIh l m with
     | true,true,some r=>zGU op r
     | _,_,_=>none
   | _=>none
 | .s a,.s b=>zT0 op (T.desc t) a b
 | _,_=>none
def Ob.pln:Ob->Ob
 | .gmap k e m=> .map k (.sl e) m
 | .grow e T xss=> .row (.sl e) T xss
 | o=>o
def hgp (hp:zAG) (id:Nat):Option Ob:=match hget hp id with
 | some o=>some o.pln
 | none=>none
def view (hp:zAG):AS->AS
 | .own id s n=>match hgp hp id with
   | some (.row e _ xs)=> .sl e ((xs.drop s).take n)
   | _=> .junk
 | .ptr id i 0=>match hgp hp id with
   | some (.row e _ xs)=> .ip e (xs.getD i e.dflt) 0
   | _=> .junk
 | .ptr _ _ _=> .junk
 | .pti _ _ _=> .junk
 | .arr _ _=> .junk
 | .omp id=>match hgp hp id with
   | some (.map k v m)=> .mp k v m
   | _=> .junk
 | .emp e=> .sl e []
 | a=>a
def AV.view (hp:zAG):AV->AV
 | .s a=> .s (Vm.view hp a)
 | .agg l=> .agg (l.map (Vm.view hp))
 | .tup _=> .junk
def viewT (T:Tab) (hp:zAG):AS->AS
 | .ptr id 0 0=>match hgp hp id with
   | some (.flat t cs)=>match T.info t with
     | some ti=>match ti.ety with
       | some e=>match e.dec (cs.map (view hp)) with
         | some x=> .pt e (some x)
         | none=> .junk
       | none=> .junk
     | none=> .junk
   | _=>view hp (.ptr id 0 0)
 | .arr id n=>match hgp hp id with
   | some (.flat _ cs)=>match zC3 cs,Nat.beq cs.length n,Nat.ble n 1000 with
     | some ns,true,true=> .sl (.int .i64) ns
     | _,_,_=> .junk
   | _=> .junk
 | a=>view hp a
def AV.viewT (T:Tab) (hp:zAG):AV->AV
 | .s a=> .s (Vm.viewT T hp a)
 | .agg l=> .agg (l.map (Vm.viewT T hp))
 | .tup _=> .junk
def ETy.decT:(e:ETy)->DecidableEq e.T
 | .int _=>(inferInstance:DecidableEq Int)
 | .bool=>(inferInstance:DecidableEq Bool)
 | .arr2=>(inferInstance:DecidableEq (Int×Int))
 | .arr3=>(inferInstance:DecidableEq (Int×Int×Int))
 | .pair a b=> @instDecidableEqProd _ _ a.decT b.decT
 | .sl e=> @instDecidableEqList _ e.decT
 | .mp k v=> @instDecidableEqList _ (@instDecidableEqProd _ _ k.decT v.decT)
 | .pt e=>letI:=e.decT;(inferInstance:DecidableEq (Option e.T))
 | .unit=>(inferInstance:DecidableEq Unit)
 | .fnc=>(inferInstance:DecidableEq (Option Nat))
def zA3 (k:ETy) {M:Type} :List (k.T×M)->k.T->Option M
 | [],_=>none
 | (x,y)::r,q=>match k.decT x q with
   | .isTrue _=>some y
   | .isFalse _=>zA3 k r q
def zAg (k:ETy) {M:Type} :List (k.T×M)->k.T->M->List (k.T×M)
 | [],q,v=>[(q,v)]
 | (x,y)::r,q,v=>match k.decT x q with
   | .isTrue _=>(x,v)::r
   | .isFalse _=>(x,y)::zAg k r q v
def ETy.isAgg:ETy->Bool
 | .arr2=>true
 | .arr3=>true
 | .pair _ _=>true
 | .unit=>true
 | _=>false
def AV.isAgg:AV->Bool
 | .agg _=>true
 | _=>false
def zM6 (o:Option ETy) (e:ETy):Bool :=
 match o with
 | some e'=>decide (e'=e)
 | none=>false
structure z3G where
 k:ETy
 v:ETy
 m:List (k.T×v.T)
def zRC (hp:zAG):AS->Option z3G
 | .mp k v m=>some ⟨k,v,m⟩
 | .omp id=>match hgp hp id with
   | some (.map k v m)=>some ⟨k,v,m⟩
   | _=>none
 | _=>none
def AS.clear:AS->Bool
 | .own _ _ _=>false
 | .ptr _ _ _=>false
 | .pti _ _ _=>false
 | .omp _=>false
 | .arr _ _=>false
 | .junk=>false
 | .emp _=>false
 | _=>true
def AV.clear:AV->Bool
 | .s a=>a.clear
 | .agg l=>l.all AS.clear
 | .tup _=>false
def AS.plain:AS->Bool
 | .int _ _=>true
 | .bool _=>true
 | _=>false
def AV.plain:AV->Bool
 | .s a=>a.plain
 | .agg l=>l.all AS.plain
 | .tup l=>l.all fun v=>match v with
   | .s a=>a.plain
   | .agg l=>l.all AS.plain
   | .tup _=>false
def lenOf (hp:zAG) (desc:TypeDesc) (a:AV):Option Res :=
 match desc,a with
 | .array n _,.agg _=>match Nat.ble n 140737488355328 with
   | true=>ok (.int .i64 n)
   | false=>none
 | .slice _,.s (.sl _ xs)=>some (some (xs.length<=140737488355328),none,.s (.int .i64 xs.length))
 | .slice _,.s (.own id _ n)=>match hgp hp id with
   | some (.row _ _ _)=>some (some (n<=140737488355328),none,.s (.int .i64 n))
   | _=>none
 | .slice _,.s (.val (.slice none 0 0))=>ok (.int .i64 0)
 | .slice _,.s (.emp _)=>ok (.int .i64 0)
 | .map _ _,.s (.val (.map none))=>ok (.int .i64 0)
 | .map _ _,.s (.mp _ _ m)=>some (none,some (m.length<=140737488355328),.s (.int .i64 m.length))
 | .map _ _,.s (.omp id)=>match hgp hp id with
   | some (.map _ _ m)=>some (none,some (m.length<=140737488355328),.s (.int .i64 m.length))
   | _=>none
 | _,_=>none
def zIl (d:TypeDesc) (f:Nat):Option (Nat×TypeId) :=
 match d with
 | .struct fs=>match fs.toList[f]? with|some x=>some (x.offset,x.type)|none=>none
 | _=>none
def zAk (l:List AS) (k:Nat) (m:List AS):List AS:=l.take k++m++l.drop (k+m.length)
def lay (place:Nat->Option (Nat×Nat)):List AS->List (Nat×AV)->Option (List AS)
 | l,[]=>some l
 | l,(i,v)::r=>match v.flat,place i with
   | some m,some (off,size)=>match Nat.beq m.length size,Nat.ble (off+m.length) l.length with
     | true,true=>lay place (zAk l off m) r
     | _,_=>none
   | _,_=>none
def zZ1 (c a b:AV):Option Res :=
 match c with
 | .s (.bool true)=>some (none,none,a)
 | .s (.bool false)=>some (none,none,b)
 | _=>none
def cUn (op:UnOp) (x:AV):Option Res :=
 match op,x with
 | .not,.s (.bool b)=>ok (.bool (!b))
 | .neg,.s (.int k n)=>some (arith k (-n))
 | _,_=>none
def zY8 (d:TypeDesc) (x:AV):Option Res :=
 match d,x with
 | .int k,.s (.int k0 n)=>match k,k0 with
   | .i64,.i64=>ok (.int .i64 n)
   | .i64,.u64=>some (some (0<=n/\n<=18446744073709551615),none,.s (.int .i64 (IntKind.i64.wrap n)))
   | .i64,.u8=>some (some (0<=n/\n<=255),none,.s (.int .i64 n))
   | k,.i64=>some (some (zAL n),none,.s (.int k (k.wrap n)))
   | k,_=>ok (.int k (k.wrap n))
 | _,_=>none
def z24 (x:AV) (i:Nat):Option Res :=
 match x with
 | .tup l=>match l[i]? with|some v=>some (none,none,v)|none=>none
 | _=>none
def zTx (T:Tab) (t:TypeId) (x:AV) (f:Nat):Option Res :=
 match x,zIl (T.desc t) f with
 | .agg l,some (off,u)=>match T.info u with
   | some i=>fitting (off+i.size) l.length (part (zA6 i.desc) l off i.size)
   | none=>none
 | _,_=>none
def zRj (T:Tab) (t:TypeId) (x i:AV) (lit:Bool):Option Res :=
 match x,i,T.desc t with
 | .agg l,.s (.int _ i),.array n u=>match T.info u with
   | some ti=>match ti.size,zA6 ti.desc,Nat.beq l.length n with
     | 1,false,true=>match lit with
       | true=>match Nat.blt i.toNat n,Int.blt' i with
         | true,false=>ok (l.getD i.toNat .junk)
         | _,_=>none
       | false=>match zC3 l with
         | some ns=>need (0<=i/\i<n) (.int .i64 (ns.getD i.toNat 0))
         | none=>none
     | _,_,_=>none
   | none=>none
 | _,_,_=>none
def zUd (T:Tab) (t:TypeId) (ps:List (Nat×AV)):Option Res :=
 match T.info t with
 | some ti=>match ti.desc with
   | .struct fs=>match lay (fun i=>match fs.toList[i]? with|some f=>some (f.offset,T.sizeOf f.type)|none=>none) ti.zero ps,fs.toList.all (fun f=>T.has f.type) with
     | some l,true=>some (none,none,.agg l)
     | _,_=>none
   | .array _ u=>match lay (fun i=>some (i*T.sizeOf u,T.sizeOf u)) ti.zero ps,T.has u with
     | some l,true=>some (none,none,.agg l)
     | _,_=>none
   | _=>none
 | none=>none
def zK8 (T:Tab) (t:TypeId) (hp:zAG) (x:AV):Option Res :=
 match x,T.info t with
 | .s a,some ti=>match a with
   | .ip e x k=>fitting (k+ti.size) e.size (part (zA6 ti.desc) (e.cells x) k ti.size)
   | .pt e o=>match Nat.ble ti.size e.size with
     | true=>some (none,some (o.isSome=true),part (zA6 ti.desc) (e.cells (o.getD e.dflt)) 0 ti.size)
     | false=>none
   | .ipi e x j=>match zEm ti.desc (e.cells x) with
     | some (k,ns)=>ok (.int k (ns.getD j 0))
     | none=>none
   | .ptr id i k=>match hgp hp id with
     | some (.row e _ xs)=>fitting (k+ti.size) e.size (part (zA6 ti.desc) (e.cells (xs.getD i e.dflt)) k ti.size)
     | some (.flat _ cs)=>match i with
       | 0=>fitting (k+ti.size) cs.length (part (zA6 ti.desc) cs k ti.size)
       | _=>none
     | _=>none
   | .pti id i j=>match hgp hp id with
     | some (.row e _ xs)=>match zEm ti.desc (e.cells (xs.getD i e.dflt)) with
       | some (k,ns)=>ok (.int k (ns.getD j 0))
       | none=>none
     | some (.flat _ cs)=>match i,zEm ti.desc cs with
       | 0,some (k,ns)=>ok (.int k (ns.getD j 0))
       | _,_=>none
     | _=>none
   | _=>none
 | _,_=>none
def z3E (x:AV):Option Res :=
 match x with
 | .s (.ip e x k)=>ok (.ip e x k)
 | .s (.pt e o)=>need (o.isSome=true) (.pt e o)
 | .s (.ptr i j k)=>ok (.ptr i j k)
 | _=>none
def zGX (T:Tab) (t:TypeId) (x:AV) (f:Nat):Option Res :=
 match x,zIl (T.desc t) f with
 | .s a,some (off,u)=>match Nat.beq (T.sizeOf u) 0,a with
   | false,.ip e x k=>ok (.ip e x (k+off))
   | false,.pt e o=>need (o.isSome=true) (.ip e (o.getD e.dflt) off)
   | false,.ptr id i k=>ok (.ptr id i (k+off))
   | _,_=>none
 | _,_=>none
def zAl (T:Tab) (t:TypeId) (hp:zAG) (x i:AV) (lit:Bool):Option Res :=
 match x,i,T.desc t with
 | .s a, .s (.int _ i),.array n u=>match lit with
   | true=>match Nat.blt i.toNat n,Int.blt' i,Nat.beq (T.sizeOf u) 0,a with
     | true,false,false,.ip e x k=>ok (.ip e x (k+i.toNat*T.sizeOf u))
     | true,false,false,.ptr id j k=>ok (.ptr id j (k+i.toNat*T.sizeOf u))
     | _,_,_,_=>none
   | false=>match T.sizeOf u,a with
     | 1,.ip e x 0=>match Nat.beq e.size n with
       | true=>need (0<=i/\i<n) (.ipi e x i.toNat)
       | false=>none
     | 1,.ptr id j 0=>match hgp hp id with
       | some (.row e _ _)=>match Nat.beq e.size n with
         | true=>need (0<=i/\i<n) (.pti id j i.toNat)
         | false=>none
       | some (.flat _ cs)=>match Nat.beq cs.length n with
         | true=>need (0<=i/\i<n) (.pti id j i.toNat)
         | false=>none
       | _=>none
     | _,_=>none
 | .s a,.s (.int _ i),.slice u=>match a with
   | .sl e xs=>match Nat.beq (T.sizeOf u) e.size,Nat.beq (T.sizeOf u) 0 with
     | true,false=>need (0<=i/\i<xs.length) (.ip e (xs.getD i.toNat e.dflt) 0)
     | _,_=>none
   | .own id s n=>match hgp hp id with
     | some (.row e _ _)=>match Nat.beq (T.sizeOf u) e.size,Nat.beq (T.sizeOf u) 0 with
       | true,false=>need (0<=i/\i<n) (.ptr id (s+i.toNat) 0)
       | _,_=>none
     | _=>none
   | _=>none
 | _,_,_=>none
def zJi (T:Tab) (t:TypeId) (hp:zAG) (x:AV) (lo hi:Option AV):Option Res :=
 match x,T.desc t with
 | .s (.sl e xs),.slice u=>match Nat.beq (T.sizeOf u) e.size,Nat.beq (T.sizeOf u) 0 with
   | true,false=>match lo,hi with
     | none,none=>need (0<=xs.length) (.sl e xs)
     | some (.s (.int _ lo)),none=>need (0<=lo/\lo<=xs.length) (.sl e ((xs.take xs.length).drop lo.toNat))
     | none,some (.s (.int _ hi))=>need (0<=hi/\hi<=xs.length) (.sl e ((xs.take hi.toNat).drop 0))
     | some (.s (.int _ lo)),some (.s (.int _ hi))=>need (0<=lo/\lo<=hi/\hi<=xs.length) (.sl e ((xs.take hi.toNat).drop lo.toNat))
     | _,_=>none
   | _,_=>none
 | .s (.own id s n),.slice u=>match hgp hp id with
   | some (.row e _ _)=>match Nat.beq (T.sizeOf u) e.size,Nat.beq (T.sizeOf u) 0 with
     | true,false=>match lo,hi with
       | some (.s (.int _ lo)),none=>need (0<=lo/\lo<=n) (.own id (s+lo.toNat) (n - lo.toNat))
       | none,some (.s (.int _ hi))=>need (0<=hi/\hi<=n) (.own id s hi.toNat)
       | some (.s (.int _ lo)),some (.s (.int _ hi))=>need (0<=lo/\lo<=hi/\hi<=n) (.own id (s+lo.toNat) (hi.toNat - lo.toNat))
       | _,_=>none
     | _,_=>none
   | _=>none
 | .s (.ptr id 0 0),.array n u=>match hgp hp id with
   | some (.flat _ cs)=>match Nat.beq cs.length n,Nat.beq (T.sizeOf u) 0,lo,hi with
     | true,false,none,none=>ok (.arr id n)
     | _,_,_,_=>none
   | _=>none
 | _,_=>none
def zGW (T:Tab) (t:TypeId) (hp:zAG) (x key:AV) (commaOk:Bool):Option Res :=
 match x,key.flat,T.desc t with
 | .s a,some kc,.map kt u=>match T.info kt,T.info u,zRC hp a with
   | some ki,some ui,some mv=>match zM6 ki.ety mv.k&&zM6 ui.ety mv.v&&(key.isAgg==mv.k.isAgg)&&(zA6 ui.desc==mv.v.isAgg),mv.k.dec kc with
     | true,some q=>match commaOk with
       | true=>some (none,none,.tup [part (zA6 ui.desc) (mv.v.cells ((zA3 mv.k mv.m q).getD mv.v.dflt)) 0 ui.size,.s (.bool (zA3 mv.k mv.m q).isSome)])
       | false=>some (none,none,part (zA6 ui.desc) (mv.v.cells ((zA3 mv.k mv.m q).getD mv.v.dflt)) 0 ui.size)
     | _,_=>none
   | _,_,_=>none
 | _,_,_=>none
def zBK (ev:Operand->AV):Callee->Callee
 | .value (.tmp t)=>match ev (.tmp t) with
   | .s (.val (.func (.func f) ⟨[]⟩ ⟨[]⟩))=> .value (.func f)
   | _=> .value (.tmp t)
 | c=>c
def zUz (ev:Operand->AV):Callee->Option (FuncId×List AV)
 | .value (.tmp t)=>match ev (.tmp t) with
   | .s (.clo f ps)=>some (f,ps.map fun q=> .s (.pt q.e (some q.x)))
   | _=>none
 | _=>none
def zFU (T:Tab) (hp:zAG) (callee:Callee) (ts:List TypeId) (vs:List AV):Option Res :=
 match callee,vs with
 | .builtin .len,[x]=>match ts with
   | t::_=>lenOf hp (T.desc t) x
   | []=>none
 | .builtin .max,[.s (.int k a),.s (.int k' b)]=>match decEq k k' with
   | .isTrue _=>ok (.int k (max a b))
   | .isFalse _=>none
 | .builtin .min,[.s (.int k a),.s (.int k' b)]=>match decEq k k' with
   | .isTrue _=>ok (.int k (min a b))
   | .isFalse _=>none
 | .value (.func f),vs=>match zEt T.fn f with
   | some c=>match c (vs.map (AV.viewT T hp)) with
     | some (p,q,v)=>match (vs.all AV.clear|| v.plain) with
       | true=>some (p,q,v)
       | false=>none
     | none=>none
   | none=>none
 | _,_=>none
def zEg (e:ETy):List e.T->List (Nat×AV)->Option (List e.T)
 | l,[]=>some l
 | l,(i,v)::r=>match v.flat with
   | some m=>match e.dec m,Nat.blt i l.length with
     | some x,true=>zEg e (l.set i x) r
     | _,_=>none
   | none=>none
def zCb (T:Tab) (t:TypeId) (n:Nat) (ps:List (Nat×AV)):Option Res :=
 match T.desc t with
 | .slice u=>match T.info u with
   | some ui=>match ui.ety with
     | some e=>match zEg e (List.replicate n e.dflt) ps,Nat.ble (n*ui.size) 16777216,Nat.beq ui.size 0 with
       | some xs,true,false=>some (none,none,.s (match n with|0=> .emp e|_+1=> .sl e xs))
       | _,_,_=>none
     | none=>none
   | none=>none
 | _=>none
def Operand.lit:Operand->Bool
 | .const _=>true
 | _=>false
def zAh (T:Tab) (op:Op) (ev:Operand->AV) (hp:zAG):Option Res :=
 match op with
 | .move x=>some (none,none,ev x)
 | .assign x=>some (none,none,ev x)
 | .pick c a b=>zZ1 (ev c) (ev a) (ev b)
 | .binOp op t x y _=>bin T t op (ev x) (ev y)
 | .unOp op _ x=>cUn op (ev x)
 | .convert src dst x=>match T.desc src with
   | .int _=>zY8 (T.desc dst) (ev x)
   | _=>none
 | .extract x i=>z24 (ev x) i
 | .field t x f=>zTx T t (ev x) f
 | .index t x i=>zRj T t (ev x) (ev i) (Operand.lit i)
 | .build t ps=>zUd T t (ps.toList.map fun p=>(p.1,ev p.2))
 | .buildSlice t n ps=>zCb T t n (ps.toList.map fun p=>(p.1,ev p.2))
 | .load t x=>zK8 T t hp (ev x)
 | .nilCheck x=>z3E (ev x)
 | .fieldAddr t x f=>zGX T t (ev x) f
 | .indexAddr t x i=>zAl T t hp (ev x) (ev i) (Operand.lit i)
 | .slice t x lo hi none=>zJi T t hp (ev x) (lo.map ev) (hi.map ev)
 | .lookup t x i commaOk=>zGW T t hp (ev x) (ev i) commaOk
 | .call c=>match zUz ev c.callee with
   | some (f,ps)=>zFU T hp (.value (.func f)) [] (c.args.toList.map ev++ps)
   | none=>zFU T hp (zBK ev c.callee) c.argTypes.toList (c.args.toList.map ev)
 | _=>none
def kill (id:Nat):AS->AS
 | .own i s n=>match Nat.beq i id with|true=> .junk|false=> .own i s n
 | .ptr i j k=>match Nat.beq i id with|true=> .junk|false=> .ptr i j k
 | .pti i j k=>match Nat.beq i id with|true=> .junk|false=> .pti i j k
 | .omp i=>match Nat.beq i id with|true=> .junk|false=> .omp i
 | .arr i n=>match Nat.beq i id with|true=> .junk|false=> .arr i n
 | a=>a
def AV.map1 (f:AS->AS):AV->AV
 | .s a=> .s (f a)
 | .agg l=> .agg (l.map f)
 | .tup _=> .junk
def AV.mapAS (f:AS->AS):AV->AV
 | .s a=> .s (f a)
 | .agg l=> .agg (l.map f)
 | .tup l=> .tup (l.map (AV.map1 f))
def Env.mapAS (f:AS->AS):Env->Env
 | []=>[]
 | (t,v)::r=>(t,v.mapAS f)::Env.mapAS f r
def Ob.mapAS (f:AS->AS):Ob->Ob
 | .flat T cs=> .flat T (cs.map f)
 | .fr X l=> .fr X (Env.mapAS f l)
 | o=>o
def zAG.mapAS (f:AS->AS):zAG->zAG
 | []=>[]
 | (t,v)::r=>(t,v.mapAS f)::zAG.mapAS f r
def zBZ:zAG->Nat->Ob->zAG
 | [],i,o=>[(i,o)]
 | (k,v)::r,i,o=>match Nat.beq k i with|true=>(k,o)::r|false=>(k,v)::zBZ r i o
def zDb:zAG->Nat->zAG
 | [],_=>[]
 | (k,v)::r,i=>match Nat.beq k i with|true=>zDb r i|false=>(k,v)::zDb r i
def St.put (st:St) (d:Option Tmp) (v:AV):St :=
 match d with
 | some t=> {st with env:=(t,v)::st.env}
 | none=>st
def zJs (id:Nat) (e:ETy) (xs:List e.T):AS->AS
 | .own i s n=>match Nat.beq i id with|true=> .sl e ((xs.drop s).take n)|false=> .own i s n
 | .ptr i j k=>match Nat.beq i id with
   | true=>match k with|0=> .ip e (xs.getD j e.dflt) 0|_+1=> .junk
   | false=> .ptr i j k
 | .pti i j k=>match Nat.beq i id with|true=> .junk|false=> .pti i j k
 | a=>a
def zQB (id:Nat) (k v:ETy) (m:List (k.T×v.T)):AS->AS
 | .omp i=>match Nat.beq i id with|true=> .mp k v m|false=> .omp i
 | a=>a
def St.freeze (st:St) (id:Nat):St :=
 match hgp st.hp id with
 | some (.row e _ xs)=> {env:=st.env.mapAS (zJs id e xs),hp:=(zDb st.hp id).mapAS (zJs id e xs),next:=st.next}
 | some (.map k v m)=> {env:=st.env.mapAS (zQB id k v m),hp:=(zDb st.hp id).mapAS (zQB id k v m),next:=st.next}
 | _=>st
def zJz:List AS->List Nat
 | []=>[]
 | .own i _ _::r=>i::zJz r
 | .omp i::r=>i::zJz r
 | _::r=>zJz r
def AV.ids:AV->List Nat
 | .s a=>zJz [a]
 | .agg l=>zJz l
 | .tup _=>[]
def St.freezeAll (st:St):List Nat->St
 | []=>st
 | i::r=>(st.freeze i).freezeAll r
def zIX (T:Tab) (id:Nat) (ob:Ob):AS->AS
 | .ptr i j k=>match Nat.beq i id with
   | true=>match viewT T [(id,ob)] (.ptr i j k) with
     | .pt e o=> .pt e o
     | _=> .junk
   | false=> .ptr i j k
 | .pti i j k=>match Nat.beq i id with|true=> .junk|false=> .pti i j k
 | a=>a
def St.freezeF (T:Tab) (st:St) (id:Nat):St :=
 match hget st.hp id with
 | some (.flat t cs)=> {env:=st.env.mapAS (zIX T id (.flat t cs)),hp:=(zDb st.hp id).mapAS (zIX T id (.flat t cs)),next:=st.next}
 | _=>st
def zMT (env:Env):List Operand->List Nat
 | []=>[]
 | c::r=>match jW env c with
   | .s (.ptr i 0 0)=>i::zMT env r
   | _=>zMT env r
def zLA (hp:zAG):List Nat->List Nat
 | []=>[]
 | i::r=>match hget hp i with
   | some (.flat _ cs)=>zJz cs++zLA hp r
   | _=>zLA hp r
def St.freezeFs (T:Tab) (st:St):List Nat->St
 | []=>st
 | i::r=>(st.freezeF T i).freezeFs T r
def St.capture (T:Tab) (st:St) (caps:List Operand):St:=(st.freezeAll (zLA st.hp (zMT st.env caps))).freezeFs T (zMT st.env caps)
def z1u (env:Env):List Operand->Option (List PtV)
 | []=>some []
 | c::r=>match jW env c,z1u env r with
   | .s (.pt e (some x)),some ps=>some (⟨e,x⟩::ps)
   | _,_=>none
def z3H:Op->Option (Nat×List Operand)
 | .makeFunc (.func f) first caps=>match first.toList with
   | []=>some (f,caps.toList)
   | _=>none
 | _=>none
def zF8 (st:St) (d:Option Tmp) (e:ETy) (u:TypeId) (xs:List e.T) (n:Nat):St :=
 ({st with hp:=(st.next,.row e u xs)::st.hp,next:=st.next+1} :St).put d (.s (.own st.next 0 n))
def zMA (st:St) (d:Option Tmp) (e:ETy) (u:TypeId) (xss:List (List e.T)) (n:Nat):St :=
 ({st with hp:=(st.next,.grow e u xss)::st.hp,next:=st.next+1} :St).put d (.s (.own st.next 0 n))
def zC5 (st:St) (d:Option Tmp) (u:TypeId) (cs:List AS):St :=
 ({st with hp:=(st.next,.flat u cs)::st.hp,next:=st.next+1} :St).put d (.s (.ptr st.next 0 0))
def ETy.setc:(e:ETy)->e.T->Nat->AS->Option e.T
 | .arr3,x,k,.int .i64 n=>some (if k=0 then n else x.1,if k=1 then n else x.2.1,if k=2 then n else x.2.2)
 | .arr2,x,k,.int .i64 n=>some (if k=0 then n else x.1,if k=1 then n else x.2)
 | .int q,_,_,.int q' n=>if q=q' then some n else none
 | .pair a b,x,k,v=>match Nat.blt k a.size with
   | true=>match a.setc x.1 k v with
     | some y=>some (y,x.2)
     | none=>none
   | false=>match b.setc x.2 (k - a.size) v with
     | some y=>some (x.1,y)
     | none=>none
 | _,_,_,_=>none
def zFJ (k:Nat) (n:Int):Nat->List Int->List AS
 | _,[]=>[]
 | j,a::r=> .int .i64 (if k=j then n else a)::zFJ k n (j+1) r
def zM5 (cs:List AS) (k:Nat) (a:AS):Option (List AS) :=
 match a,zC3 cs with
 | .int .i64 n,some ns=>some (zFJ k n 0 ns)
 | _,_=>none
def AS.storable:AS->Bool
 | .junk=>false
 | .val (.tuple _)=>false
 | _=>true
def zCB (T:Tab) (t:TypeId) (x v:AV) (st:St) (d:Option Tmp):Option (Option Prop×Option Prop×St) :=
 match x,v.flat with
 | .s (.ptr id i k),some m=>match (Nat.beq m.length (T.sizeOf t)&& !Nat.beq (T.sizeOf t) 0),m.all AS.storable,hget st.hp id with
   | true,true,some (.row e u xs)=>match Nat.beq k 0,Nat.beq m.length e.size with
     | true,true=>match e.dec m with
       | some y=>some (none,none,({st with hp:=zBZ st.hp id (.row e u (xs.set i y))} :St).put d .undef)
       | none=>none
     | _,_=>match m with
       | [a]=>match Nat.blt k e.size,e.setc (xs.getD i e.dflt) k a with
         | true,some y=>some (none,none,({st with hp:=zBZ st.hp id (.row e u (xs.set i y))} :St).put d .undef)
         | _,_=>none
       | _=>none
   | true,true,some (.flat u cs)=>match i,Nat.ble (k+m.length) cs.length with
     | 0,true=>some (none,none,({st with hp:=zBZ st.hp id (.flat u (zAk cs k m))} :St).put d .undef)
     | _,_=>none
   | _,_,_=>none
 | .s (.pti id i j),some [a]=>match Nat.beq 1 (T.sizeOf t),a.storable,hget st.hp id with
   | true,true,some (.row e u xs)=>match e.setc (xs.getD i e.dflt) j a with
     | some y=>some (none,none,({st with hp:=zBZ st.hp id (.row e u (xs.set i y))} :St).put d .undef)
     | none=>none
   | true,true,some (.flat u cs)=>match i,zM5 cs j a with
     | 0,some cs=>some (none,none,({st with hp:=zBZ st.hp id (.flat u cs)} :St).put d .undef)
     | _,_=>none
   | _,_,_=>none
 | _,_=>none
def zCd (T:Tab) (t:TypeId) (n:Nat) (ps:List (Nat×AV)) (st:St) (d:Option Tmp):Option (Option Prop×Option Prop×St) :=
 match T.desc t with
 | .slice u=>match T.info u with
   | some ui=>match ui.ety with
     | some e=>match zEg e (List.replicate n e.dflt) ps,Nat.ble (n*ui.size) 16777216,Nat.beq ui.size 0 with
       | some xs,true,false=>some (none,none,zF8 st d e u xs n)
       | _,_,_=>none
     | none=>none
   | none=>none
 | _=>none
def zDY (T:Tab) (t:TypeId) (l c:AV) (st:St) (d:Option Tmp):Option (Option Prop×Option Prop×St) :=
 match T.desc t,l,c with
 | .slice u,.s (.int .i64 n),.s (.int .i64 c)=>match T.info u with
   | some ui=>match ui.ety with
     | some (.sl e)=>match Nat.beq ui.bytes 0 with
       | false=>some (none,some (0<=n/\n<=c/\c*ui.bytes<=140737488355328),zMA st d e u (List.replicate n.toNat []) n.toNat)
       | true=>none
     | some e=>match Nat.beq ui.bytes 0 with
       | false=>some (none,some (0<=n/\n<=c/\c*ui.bytes<=140737488355328),zF8 st d e u (List.replicate n.toNat e.dflt) n.toNat)
       | true=>none
     | none=>none
   | none=>none
 | _,_,_=>none
def zFs (T:Tab) (t:TypeId) (st:St) (d:Option Tmp):Option (Option Prop×Option Prop×St) :=
 match T.desc t with
 | .map k v=>match T.info k,T.info v with
   | some ki,some vi=>match ki.ety,vi.ety with
     | some ek,some (.sl e)=>some (none,none,({st with hp:=(st.next,.gmap ek e [])::st.hp,next:=st.next+1} :St).put d (.s (.omp st.next)))
     | some ek,some ev=>some (none,none,({st with hp:=(st.next,.map ek ev [])::st.hp,next:=st.next+1} :St).put d (.s (.omp st.next)))
     | _,_=>none
   | _,_=>none
 | _=>none
def zE6 (T:Tab) (t:TypeId) (x key v:AV) (st:St) (d:Option Tmp):Option (Option Prop×Option Prop×St) :=
 match x,key.flat,v.flat,T.desc t with
 | .s (.omp id),some kc,some vc,.map kt u=>match T.info kt,T.info u,hget st.hp id with
   | some ki,some ui,some (.map k e m)=>match zM6 ki.ety k&&zM6 ui.ety e&&(key.isAgg==k.isAgg)&&(v.isAgg==e.isAgg),k.dec kc,e.dec vc with
     | true,some kk,some vv=>some (none,none,({st with hp:=zBZ st.hp id (.map k e (zAg k m kk vv))} :St).put d .undef)
     | _,_,_=>none
   | _,_,_=>none
 | _,_,_,_=>none
def zUI (T:Tab) (ts:List TypeId) (dst src:AV) (st:St) (d:Option Tmp):Option (Option Prop×Option Prop×St) :=
 match ts,dst,src.view st.hp with
 | [t, t'],.s (.own id s n),.s (.sl e' ys)=>match Nat.beq t t',T.desc t,hget st.hp id with
   | true,.slice u',some (.row e u xs)=>match decEq e' e,Nat.beq u u',T.info u with
     | .isTrue h,true,some ui=>match Nat.beq ui.bytes 0,Nat.beq ui.size e.size,Nat.beq ui.size 0 with
       | false,true,false=>some (none,some (((n:Int)+ys.length)*ui.bytes<=140737488355328),
         ({env:=st.env.mapAS (kill id),hp:=zBZ (st.hp.mapAS (kill id)) id (.row e u ((xs.drop s).take n++(h▸ys))),next:=st.next} :St).put d (.s (.own id 0 (n+ys.length))))
       | _,_,_=>none
     | _,_,_=>none
   | _,_,_=>none
 | _,_,_=>none
def zNa (T:Tab) (ts:List TypeId) (e:ETy) (src:AV) (st:St) (d:Option Tmp):Option (Option Prop×Option Prop×St) :=
 match ts,src.view st.hp,st.hp with
 | [t, t'],.s (.sl e' ys),(g,.row .unit 0 [])::_=>match Nat.beq t t',T.desc t with
   | true,.slice u=>match decEq e' e,T.info u with
     | .isTrue h,some ui=>match Nat.beq ui.bytes 0,Nat.beq ui.size e.size,Nat.beq ui.size 0 with
       | false,true,false=>some (none,some ((ys.length:Int)*ui.bytes<=140737488355328),
         ({env:=st.env.mapAS (kill g),hp:=zBZ (st.hp.mapAS (kill g)) g (.row e u (h▸ys)),next:=st.next} :St).put d (.s (.own g 0 ys.length)))
       | _,_,_=>none
     | _,_=>none
   | _,_=>none
 | _,_,_=>none
def zBu (T:Tab) (ts:List TypeId) (dst src:AV) (st:St) (d:Option Tmp):Option (Option Prop×Option Prop×St) :=
 match dst with
 | .s (.emp e)=>zNa T ts e src st d
 | dst=>zUI T ts dst src st d
def zKQ (n:Nat):AS->AS
 | .own i s k=> .own (n+i) s k
 | .ptr i j k=> .ptr (n+i) j k
 | .pti i j k=> .pti (n+i) j k
 | .omp i=> .omp (n+i)
 | .arr i k=> .arr (n+i) k
 | a=>a
def zHe:St->List Ob->St
 | st,[]=>st
 | st,o::r=>zHe {st with hp:=(st.next,o)::st.hp,next:=st.next+1} r
def ETy.solid:ETy->Bool
 | .int _=>true
 | .bool=>true
 | .arr2=>true
 | .arr3=>true
 | .pair a b=>a.solid&&b.solid
 | _=>false
def Ob.solid:Ob->Bool
 | .row e _ _=>e.solid
 | _=>false
def AS.plainF:AS->Bool
 | .own _ _ _=>true
 | a=>a.plain
def AV.plainF:AV->Bool
 | .s a=>a.plainF
 | .agg l=>l.all AS.plainF
 | .tup l=>l.all fun v=>match v with
   | .s a=>a.plainF
   | .agg l=>l.all AS.plainF
   | .tup _=>false
def zQI (T:Tab) (f:FuncId) (vs:List AV) (st:St) (d:Option Tmp):Option (Option Prop×Option Prop×St) :=
 match zEt T.fr f with
 | some (.res c)=>match c (vs.map (AV.viewT T st.hp)) with
   | some (p,q,v,obs)=>match vs.all AV.clear|| (v.plainF&&obs.all Ob.solid) with
     | true=>some (p,q,(zHe st obs).put d (v.mapAS (zKQ st.next)))
     | false=>none
   | none=>none
 | _=>none
def zO9 (T:Tab) (t:TypeId) (x:AV) (st:St) (d:Option Tmp):Option (Option Prop×Option Prop×St) :=
 match x,T.desc t with
 | .s (.val (.slice none 0 0)),.slice u=>match T.info u with
   | some ui=>match ui.ety with
     | some e=>some (none,none,zF8 st d e u [] 0)
     | none=>none
   | none=>none
 | _,_=>none
def zEq (T:Tab) (o:Oper) (st:St):Option (Option Prop×Option Prop×St) :=
 let ev:=jW st.env
 match o.op with
 | .assign x=>zO9 T o.type (ev x) st o.dst
 | .box t x=>match (ev x).flat with
   | some cs=>some (none,none,zC5 st o.dst t cs)
   | none=>none
 | .alloc t=>match T.info t with
   | some ti=>some (none,none,zC5 st o.dst t ti.zero)
   | none=>none
 | .store t x v=>zCB T t (ev x) (ev v) st o.dst
 | .buildSlice t n ps=>zCd T t n (ps.toList.map fun p=>(p.1,ev p.2)) st o.dst
 | .makeSlice t l c=>zDY T t (ev l) (ev c) st o.dst
 | .makeMap t none=>zFs T t st o.dst
 | .mapUpdate t m k v=>zE6 T t (ev m) (ev k) (ev v) st o.dst
 | .insert t m k v=>zE6 T t (ev m) (ev k) (ev v) st o.dst
 | .call c=>match zBK ev c.callee,c.args.toList with
   | .builtin .append,[x,y]=>zBu T c.argTypes.toList (ev x) (ev y) st o.dst
   | .value (.func f),xs=>zQI T f (xs.map ev) st o.dst
   | _,_=>none
 | _=>none
def zAJ (T:Tab) (o:Oper) (st:St):Option (Option Prop×Option Prop×St) :=
 match zAh T o.op (jW st.env) st.hp with
 | some (p,q,v)=>some (p,q,st.put o.dst v)
 | none=>none
def zS8 (ev:Operand->AV):Op->List Nat
 | .buildSlice _ _ ps=>ps.toList.flatMap fun p=>(ev p.2).ids
 | .store _ _ v=>(ev v).ids
 | .mapUpdate _ _ _ v=>(ev v).ids
 | .insert _ _ _ v=>(ev v).ids
 | .call c=>match c.callee with
   | .value _=>c.args.toList.flatMap fun x=>(ev x).ids
   | _=>[]
 | _=>[]
def zI7:Op->Bool
 | .call c=>match c.callee with
   | .value _=>true
   | _=>false
 | _=>false
def zLT (T:Tab) (o:Oper) (st:St):Option (Option Prop×Option Prop×St) :=
 match zI7 o.op with
 | true=>none
 | false=>zEq T o st
def zCR (T:Tab) (draw:Bool) (o:Oper) (st:St):Option (Option Prop×Option Prop×St) :=
 match draw with
 | true=>match zAJ T o st with|some r=>some r|none=>zLT T o st
 | false =>match zEq T o st with
   | some r=>some r
   | none=>match zAJ T o st with
     | some r=>some r
     | none=>match zS8 (jW st.env) o.op with
       | []=>none
       | i::ids=>match zEq T o (st.freezeAll (i::ids)) with
         | some r=>some r
         | none=>zAJ T o (st.freezeAll (i::ids))
def BIf:Bool->Prop->Prop->Prop
 | true,p,_=>p
 | false,_,q=>q
theorem BIf.intro {b:Bool} {p q:Prop} (h1:b=true->p) (h2:b=false->q):BIf b p q:=by cases b;exact h2 rfl;exact h1 rfl
def zLg (q k:Prop):Prop:=q/\k
def zNn (p k:Prop):Prop:=p->k
def zWD (p q:Prop):Prop:=p/\q
theorem zWD.intro {p q:Prop} (h:p) (h':q):zWD p q:=⟨h,h'⟩
theorem zWD.out {p q:Prop} (h:zWD p q):p/\q:=h
theorem zLg.intro {q k:Prop} (h:q) (h':k):zLg q k:=⟨h,h'⟩
theorem zNn.intro {p k:Prop} (h:p->k):zNn p k:=h
theorem zLg.out {q k:Prop} (h:zLg q k):q/\k:=h
theorem zNn.out {p k:Prop} (h:zNn p k):p->k:=h
attribute [irreducible] zLg zNn zWD
theorem BIf.dec {p x y:Prop} [Decidable p] (h1:p->x) (h2: ¬p->y):BIf (decide p) x y:=BIf.intro (fun h=>h1 (of_decide_eq_true h)) (fun h=>h2 (of_decide_eq_false h))
theorem BIf.eqi {α:Type} [BEq α] [LawfulBEq α] {a b:α} {x y:Prop} (h1:a=b->x) (h2:a≠b->y):BIf (a==b) x y:=BIf.intro (fun h=>h1 (by simpa using h)) (fun h=>h2 (by simpa using h))
theorem BIf.nei {α:Type} [BEq α] [LawfulBEq α] {a b:α} {x y:Prop} (h1:a≠b->x) (h2:a=b->y):BIf (a != b) x y:=BIf.intro (fun h=>h1 (by simpa using h)) (fun h=>h2 (by simpa using h))
theorem BIf.nt {b:Bool} {x y:Prop} (h:BIf b y x):BIf (!b) x y:=by cases b<;>exact h
theorem BIf.and {a b:Bool} {x y:Prop} (h:BIf a (BIf b x y) y):BIf (a&&b) x y:=by cases a<;>cases b<;>exact h
theorem BIf.or {a b:Bool} {x y:Prop} (h:BIf a x (BIf b x y)):BIf (a|| b) x y:=by cases a<;>cases b<;>exact h
def zB9:Nat->(Nat->Prop)->Prop
 | 0,K=>K 0
 | n+1,K=>zB9 n fun m=>K (m+1)
theorem zC7: ∀ (n:Nat) (K:Nat->Prop),zB9 n K=K n
 | 0,_=>rfl
 | n+1,K=>by rw [zB9,zC7 n]
def AS.force (K:AS->Prop):AS->Prop
 | .int k n=>K (.int k n)
 | .bool b=>K (.bool b)
 | .val v=>K (.val v)
 | .sl e xs=>K (.sl e xs)
 | .mp k v m=>K (.mp k v m)
 | .pt e o=>K (.pt e o)
 | .ip e x k=>K (.ip e x k)
 | .own i s n=>zB9 i fun i=>K (.own i s n)
 | .ipi e x k=>K (.ipi e x k)
 | .ptr i j k=>zB9 i fun i=>K (.ptr i j k)
 | .pti i j k=>zB9 i fun i=>K (.pti i j k)
 | .omp i=>zB9 i fun i=>K (.omp i)
 | .arr i n=>zB9 i fun i=>K (.arr i n)
 | .clo f ps=>K (.clo f ps)
 | .nq b e xs=>K (.nq b e xs)
 | .emp e=>K (.emp e)
 | .junk=>K .junk
def zDM (K:List AS->Prop):List AS->Prop
 | []=>K []
 | a::l=>a.force fun a=>zDM (fun l=>K (a::l)) l
def zCp (K:List AV->Prop):List AV->Prop
 | []=>K []
 | .s a::r=>a.force fun a=>zCp (fun r=>K (.s a::r)) r
 | .agg l::r=>zDM (fun l=>zCp (fun r=>K (.agg l::r)) r) l
 | .tup l::r=>zCp (fun r=>K (.tup l::r)) r
def AV.force (K:AV->Prop):AV->Prop
 | .s a=>a.force fun a=>K (.s a)
 | .agg l=>zDM (fun l=>K (.agg l)) l
 | .tup l=>zCp (fun l=>K (.tup l)) l
def Ob.force (K:Ob->Prop):Ob->Prop
 | .row e T xs=>K (.row e T xs)
 | .flat T cs=>zDM (fun cs=>K (.flat T cs)) cs
 | .map k v m=>K (.map k v m)
 | .gmap k e m=>K (.gmap k e m)
 | .grow e T xss=>K (.grow e T xss)
 | .fr X l=>K (.fr X l)
def zHZ (K:Env->Prop):Env->Prop
 | []=>K []
 | [(t,v)]=>v.force fun v=>K [(t,v)]
 | (t,v)::x::r=>v.force fun v=>K ((t,v)::x::r)
def zD8 (K:Env->Prop):Env->Prop
 | []=>K []
 | (t,v)::r=>v.force fun v=>zD8 (fun r=>K ((t,v)::r)) r
def zDt (K:zAG->Prop):zAG->Prop
 | []=>K []
 | (t,v)::r=>zB9 t fun t=>v.force fun v=>zDt (fun r=>K ((t,v)::r)) r
def St.force (K:St->Prop):St->Prop
 | ⟨env,hp,nx⟩=>zHZ (fun env=>zDt (fun hp=>zB9 nx fun nx=>K ⟨env,hp,nx⟩) hp) env
def St.forceAll (K:St->Prop):St->Prop
 | ⟨env,hp,nx⟩=>zD8 (fun env=>zDt (fun hp=>zB9 nx fun nx=>K ⟨env,hp,nx⟩) hp) env
theorem AS.force_eq (K:AS->Prop) (a:AS):a.force K=K a:=by cases a<;>first|rfl|exact zC7 _ _
theorem zCr: ∀ (l:List AS) (K:List AS->Prop),zDM K l=K l
 | [],_=>rfl
 | a::l,K=>by rw [zDM,AS.force_eq,zCr l]
theorem zDf: ∀ (l:List AV) (K:List AV->Prop),zCp K l=K l
 | [],_=>rfl
 | .s a::r,K=>by rw [zCp,AS.force_eq,zDf r]
 | .agg l::r,K=>by rw [zCp,zCr,zDf r]
 | .tup l::r,K=>by rw [zCp,zDf r]
theorem AV.force_eq (K:AV->Prop) (a:AV):a.force K=K a:=by
 match a with
 | .s a=>rw [AV.force,AS.force_eq]
 | .agg l=>rw [AV.force,zCr]
 | .tup l=>rw [AV.force,zDf]
theorem Ob.force_eq (K:Ob->Prop) (a:Ob):a.force K=K a:=by
 cases a with
 | row=>rfl
 | flat T cs=>rw [Ob.force,zCr]
 | map=>rfl
 | gmap=>rfl
 | grow=>rfl
 | fr=>rfl
theorem zOL (l:Env) (K:Env->Prop):zHZ K l=K l:=by
 match l with
 | []=>rfl
 | [(t,v)]=>rw [zHZ,AV.force_eq]
 | (t,v)::x::r=>rw [zHZ,AV.force_eq]
theorem zFA: ∀ (l:Env) (K:Env->Prop),zD8 K l=K l
 | [],_=>rfl
 | (t,v)::r,K=>by rw [zD8,AV.force_eq,zFA r]
theorem zEU: ∀ (l:zAG) (K:zAG->Prop),zDt K l=K l
 | [],_=>rfl
 | (t,v)::r,K=>by rw [zDt,zC7,Ob.force_eq,zEU r]
theorem St.force_eq (s:St) (K:St->Prop):s.force K=K s:=by
 obtain ⟨env,hp,nx⟩:=s;rw [St.force,zOL,zEU,zC7]
theorem St.forceAll_eq (s:St) (K:St->Prop):s.forceAll K=K s:=by
 obtain ⟨env,hp,nx⟩:=s;rw [St.forceAll,zFA,zEU,zC7]
def zRM (T:Tab) (draw:Bool) (o:Oper) (st:St) (K:St->Prop):Prop :=
 match zCR T draw o st with
 | some (none,none,st')=>st'.force K
 | some (some p,none,st')=>zNn p (st'.force K)
 | some (none,some q,st')=>zLg q (st'.force K)
 | some (some p,some q,st')=>zNn p (zLg q (st'.force K))
 | none=>False
def z3T (T:Tab) (o:Oper) (ev:Operand->AV):Option ((List AV->St->(AV->St->Prop)->Prop)×List AV) :=
 match o.op with
 | .call c=>match zBK ev c.callee with
   | .value (.func f)=>match zEt T.fr f with
     | some (.run h)=>some (h,c.args.toList.map ev)
     | _=>none
   | _=>none
 | _=>none
def z3S (o:Oper) (ev:Operand->AV):Option (FuncId×List AV) :=
 match o.op with
 | .call c=>match c.callee with
   | .value (.tmp t)=>match ev (.tmp t) with
     | .s (.clo f ps)=>some (f,c.args.toList.map ev++ps.map fun q=> .s (.pt q.e (some q.x)))
     | _=>none
   | _=>none
 | _=>none
def zLr (T:Tab) (o:Oper) (ev:Operand->AV) (st:St):Option St :=
 match o.op with
 | .call c=>match c.callee,c.args.toList,c.argTypes.toList with
   | .builtin .clear,[x],[t]=>match ev x,T.desc t with
     | .s (.own id s n),.slice u=>match hget st.hp id,T.info u with
       | some (.row (.int .i64) u' xs),some ti=>match ti.ety with
         | some (.int .i64)=>some (({st with hp:=zBZ st.hp id (.row (.int .i64) u' (xs.take s++(List.replicate n (0:Int)++xs.drop (s+n))))} :St).put o.dst .undef)
         | _=>none
       | _,_=>none
     | _,_=>none
   | _,_,_=>none
 | _=>none
def z2f (r:Option Res) (K:AV->Prop):Prop :=
 match r with
 | some (none,none,v)=>K v
 | some (some p,none,v)=>zNn p (K v)
 | some (none,some q,v)=>zLg q (K v)
 | some (some p,some q,v)=>zNn p (zLg q (K v))
 | none=>False
def aop (T:Tab) (draw:Bool) (o:Oper) (st:St) (K:St->Prop):Prop :=
 match draw with
 | true=>zRM T true o st K
 | false =>match z3T T o (jW st.env) with
   | some (h,vs)=>h vs st fun v st'=>(st'.put o.dst v).force K
   | none=>match z3S o (jW st.env) with
     | some (f,vs)=>z2f (zFU T st.hp (.value (.func f)) [] vs) fun v=>(st.put o.dst v).force K
     | none=>match zLr T o (jW st.env) st with
       | some st'=>st'.force K
       | none=>match z3H o.op with
         | some (f,caps)=>(st.capture T caps).force fun st1=>match z1u st1.env caps with
           | some ps=>(st1.put o.dst (.s (.clo f ps))).force K
           | none=>False
         | none=>zRM T false o st K
def j7 (ops:Array Oper) (j:Nat):Option Tmp :=
 match ops[j]? with
 | some o=>o.dst
 | none=>none
def zD6 (ops:Array Oper) (env:Env) (j:Nat):AV :=
 match ops[j]? with
 | some o=>match o.dst with
   | some d=>qQ env d
   | none=> .junk
 | none=> .junk
def zBj (T :Tab) (draw:Bool) (ops:Array Oper):List Oper->St->(St->Prop)->Prop
 | [],st,K=>K st
 | o :: r, st,K=>match o.guard with
   | none=>aop T draw o st (fun st'=>zBj T draw ops r st' K)
   | some (j,want)=>match zD6 ops st.env j with
     | .s (.bool b)=>BIf b
        (match want with
          | true=>(st.put (j7 ops j) (.s (.bool true))).force fun st=>aop T draw o st (fun st'=>zBj T draw ops r st' K)
          | false=>(st.put (j7 ops j) (.s (.bool true))).force fun st=>(st.put o.dst .undef).force fun st=>zBj T draw ops r st K)
        (match want with
          | true=>(st.put (j7 ops j) (.s (.bool false))).force fun st=>(st.put o.dst .undef).force fun st=>zBj T draw ops r st K
          | false=>(st.put (j7 ops j) (.s (.bool false))).force fun st=>aop T draw o st (fun st'=>zBj T draw ops r st' K))
     | .s (.val (.tuple _))=>(st.put o.dst .undef).force fun st=>zBj T draw ops r st K
     | _=>False
def zM0:List AS->Nat->Option Nat
 | [],_=>none
 | .val (.slice none 0 0)::_,i=>some i
 | _::r,i=>zM0 r (i+1)
def fieldAt:List Field->Nat->Option TypeId
 | [],_=>none
 | f::r,i=>match Nat.beq f.offset i with|true=>some f.type|false=>fieldAt r i
def zSa (T:Tab) (t:TypeId):Option (ETy×TypeId) :=
 match T.info t with
 | some ti=>match ti.ety,ti.desc with
   | some (.sl e),.slice u=>some (e,u)
   | _,_=>none
 | none=>none
def elemAt (T:Tab) (t:TypeId) (i:Nat):Option (ETy×TypeId) :=
 match T.desc t with
 | .struct fs=>match fieldAt fs.toList i with
   | some u=>zSa T u
   | none=>none
 | _=>zSa T t
def zHV (T:Tab) (env:Env) (hp:zAG) (nx:Nat) (id:Nat):St :=
 match hget hp id with
 | some (.flat t cs)=>match zM0 cs 0 with
   | some i=>match elemAt T t i with
     | some (e,u)=> {env:=env,hp:=(id,.flat t (cs.set i (.own nx 0 0)))::(nx,.row e u [])::zDb hp id,next:=nx+1}
     | none=>⟨env,hp,nx⟩
   | none=>⟨env,hp,nx⟩
 | _=>⟨env,hp,nx⟩
def St.rowNil (T:Tab) (st:St) (id:Nat):St :=
 match st with
 | ⟨env,hp,nx⟩=>zHV T env hp nx id
theorem zKH (T:Tab) (st:St) (id:Nat):st.rowNil T id=zHV T st.env st.hp st.next id:=by cases st;rfl
def zFz (T:Tab) (K:St->Prop):List Nat->St->Prop
 | [],st=>K st
 | i::r,st=>(st.rowNil T i).forceAll fun st=>zFz T K r st
structure Spec (X:Type) where
 inv:X->Prop
 live:X->Env
 keep:List Nat
 heap:X->zAG
 keepH:List Nat
 mu:X->Nat
 nils:List Nat:=[]
 frz:List Tmp:=[]
def z0Q (K:St->Prop):List Tmp->St->Prop
 | [],st=>K st
 | t::r,st=>(st.freezeAll (AV.ids (qQ st.env t))).forceAll fun st=>z0Q K r st
def zTD (env:Env):List Nat->Env
 | []=>[]
 | t::r=>(t,qQ env t)::zTD env r
def zK5 (hp:zAG):List Nat->zAG
 | []=>[]
 | t::r=>match hget hp t with|some o=>(t,o)::zK5 hp r|none=>zK5 hp r
def Spec.head {X:Type} (S:Spec X) (st:St) (x:X):St :=
 {env:=S.live x++zTD st.env S.keep,hp:=S.heap x++zK5 st.hp S.keepH,next:=st.next}
def zRO (env:Env):Env->Prop
 | []=>True
 | (t,v)::r=>v=qQ env t/\zRO env r
def zLm (hp:zAG):zAG->Prop
 | []=>True
 | (t,o)::r=>some o=hget hp t/\zLm hp r
def AS.idsBelow (n:Nat):AS->Bool
 | .own id _ _=>Nat.blt id n
 | .ptr id _ _=>Nat.blt id n
 | .pti id _ _=>Nat.blt id n
 | .omp id=>Nat.blt id n
 | .arr id _=>Nat.blt id n
 | _=>true
def AV.idsBelow (n:Nat):AV->Bool
 | .s a=>a.idsBelow n
 | .agg l=>l.all (AS.idsBelow n)
 | .tup _=>false
def zCS (n:Nat):Env->Bool
 | []=>true
 | (_,v)::r=>v.idsBelow n&&zCS n r
def zDK (n:Nat):zAG->Bool
 | []=>true
 | (i,o)::r=>Nat.blt i n&&(match o with|.flat _ cs=>cs.all (AS.idsBelow n)|.fr _ l=>zCS n l|_=>true)&&zDK n r
def zOZ (s t:St):Prop:=zRO s.env t.env/\zLm s.hp t.hp/\(zCS t.next t.env&&zDK t.next t.hp&&Nat.ble t.next s.next)=true
def rounds (body:St->(Exit->St->Prop)->Prop) (K:Exit->St->Prop):Nat->St->Prop
 | 0,_=>False
 | n+1,st=>body st (fun e s=>match e with
   | .normal=>rounds body K n s
   | e=>K e s)
def jN:Op->Bool
 | .box _ _=>false
 | .alloc _=>false
 | .store _ _ _=>false
 | .makeSlice _ _ _=>false
 | .makeMap _ _=>false
 | .mapUpdate _ _ _ _=>false
 | .insert _ _ _ _=>false
 | .call c=>match c.callee with
   | .value (.func _)=>true
   | .value (.tmp _)=>true
   | .builtin .len=>true
   | .builtin .max=>true
   | .builtin .min=>true
   | _=>false
 | _=>true
def zR4 (i:Nat):List Nat->Bool
 | []=>false
 | k::r=>match Nat.beq k i with|true=>true|false=>zR4 i r
def AS.free (r:Nat):AS->Bool
 | .own i _ _=> !Nat.beq i r
 | .ptr i _ _=> !Nat.beq i r
 | .pti i _ _=> !Nat.beq i r
 | .omp i=> !Nat.beq i r
 | .arr i _=> !Nat.beq i r
 | _=>true
def AV.free (r:Nat):AV->Bool
 | .s a=>a.free r
 | .agg l=>l.all (AS.free r)
 | .tup l=>l.all fun v=>match v with
   | .s a=>a.free r
   | .agg l=>l.all (AS.free r)
   | .tup _=>false
def Ob.free (r:Nat):Ob->Bool
 | .flat _ cs=>cs.all (AS.free r)
 | .fr _ l=>l.all fun x=>x.2.free r
 | _=>true
def zJQ (o:Oper):Option (Operand×Operand×Tmp) :=
 match o.op,o.guard,o.dst with
 | .call c,none,some d=>match c.callee,c.args.toList with
   | .builtin .append,[x,y]=>some (x,y,d)
   | _,_=>none
 | _,_,_=>none
def zK7 (o:Oper):Bool:=match o.op,o.guard,o.dst with
 | .store _ _ _,none,none=>true
 | _,_,_=>false
def slotsOf (ops:Array Oper) (o:Oper):List Tmp:=o.op.operands.toList.filterMap (fun x=>match x with|.tmp t=>some t|_=>none)++(match o.guard with
 | some (j,_)=>match ops[j]? with
   | some o'=>match o'.dst with
     | some d=>[d]
     | none=>[]
   | none=>[]
 | none=>[])
def zXO (f:Nat) (o:Oper):Bool:=o.after.toList.any fun e=>(match e.ground with|.textOnly _=>false|.gcOnly _=>false|_=>true)&&Nat.beq e.on f
def zX6 (ops:Array Oper) (f:Nat) (d:Tmp):List Oper->Nat
 | []=>0
 | o::l=>match jN o.op&& !zR4 d (slotsOf ops o)&&(match o.dst with|some d'=> !Nat.beq d d'|none=>true)&& !zXO f o with
   | true=>zX6 ops f d l+1
   | false=>0
def zNf (ops:Array Oper):List Oper->Nat->Bool
 | [],_=>false
 | o ::l,f=>match zJQ o with
   | some (_,_,d)=>match zX6 ops f d l with
     | 0=>false
     | _=>true
   | none=>zNf ops l (f+1)
def zL8 (a b:Option Res) (K:Prop):Prop:=match a,b with
 | some (none,none,v),some (none,none,v')=>v=v'/\K
 | some (none,some q,v),some (none,some q',v')=>v=v'/\q=q'/\K
 | some (some p,none,v),some (some p',none,v')=>v=v'/\p=p'/\K
 | _,_=>False
theorem zL8.out {a b:Option Res} {K:Prop} (h:zL8 a b K):a=b/\K:=by
 unfold zL8 at h;split at h
 ·obtain ⟨rfl,h⟩:=h;exact ⟨rfl,h⟩
 ·obtain ⟨rfl,rfl,h⟩:=h;exact ⟨rfl,h⟩
 ·obtain ⟨rfl,rfl,h⟩:=h;exact ⟨rfl,h⟩
 ·exact h.elim
def Ob.still:Ob->Bool
 | .gmap _ _ _=>false
 | .grow _ _ _=>false
 | _=>true
def zFx (id:Nat):zAG->Bool
 | []=>true
 | (i,o)::r=>(Nat.beq i id|| o.still)&&zFx id r
def z1H:Op->Bool
 | .move _=>true
 | .load _ _=>true
 | .build _ _=>true
 | .buildSlice _ _ _=>true
 | .field _ _ _=>true
 | .fieldAddr _ _ _=>true
 | .indexAddr _ _ _=>true
 | .index _ _ _=>true
 | .binOp _ _ _ _ _=>true
 | _=>false
inductive z2X where
 | upd
 | ent
 | cell
structure zMJ where
 kind:z2X
 id:Nat
 t:Tmp
 h:Tmp
 kc:List AS
def zVQ (T:Tab) (mt:TypeId) (st:St) (x key:AV):Option (Nat×List AS×Ob) :=
 match x,key.flat,T.desc mt with
 | .s (.omp id),some kc,.map kt u=>match T.info kt,T.info u,hget st.hp id with
   | some ki,some ui,some (.gmap k e m)=>match zM6 ki.ety k&&zM6 ui.ety (.sl e)&&(key.isAgg==k.isAgg),k.dec kc with
     | true,some q=>some (id,kc,.gmap k e (zAg k m q ((zA3 k m q).getD [])))
     | _,_=>none
   | _,_,_=>none
 | _,_,_=>none
def zUM (T:Tab):List Oper->St->Option (zMJ×St×List Oper)
 | ⟨some t,.lookup mt x kx false,_,_,_,none⟩::r,st=>match zVQ T mt st (jW st.env x) (jW st.env kx) with
   | some (id,kc,_)=>some (⟨.upd,id,t,t,kc⟩,st.put (some t) .junk,r)
   | none=>none
 | ⟨some h,.mapEntry mt x kx,_,_,_,none⟩::⟨some t,.extract (.tmp h') 0,_,_,_,none⟩::r,st=>match zVQ T mt st (jW st.env x) (jW st.env kx),Nat.beq h h',Nat.beq h t with
   | some (id,kc,ob),true,false=>some (⟨.ent,id,t,h,kc⟩,(({st with hp:=zBZ st.hp id ob} :St).put (some h) .junk).put (some t) .junk,r)
   | _,_,_=>none
 | ⟨some t,.load et x,_,_,_,none⟩::r,st=>match jW st.env x,T.info et with
   | .s (.ptr id i 0),some ti=>match hget st.hp id,zA6 ti.desc,Nat.beq ti.size 1 with
     | some (.grow _ _ _),false,true=>some (⟨.cell,id,t,t,[.int .i64 i]⟩,st.put (some t) .junk,r)
     | _,_,_=>none
   | _,_=>none
 | _,_=>none
def zXM (T:Tab) (g:zMJ):List Oper->St->(St->Oper->List Oper->Prop)->Prop
 | [],_,_=>False
 | o ::r,st,K=>match zJQ o with
   | some _=>K st o r
   | none=>match z1H o.op,o.guard,o.dst with
     | true,none,some d=>match Nat.beq d g.t|| Nat.beq d g.h with
       | false=>match zAJ T o st with
         | some (none,none,st')=>st'.force fun st'=>zXM T g r st' K
         | some (some p,none,st')=>zNn p (st'.force fun st'=>zXM T g r st' K)
         | some (none,some q,st')=>zLg q (st'.force fun st'=>zXM T g r st' K)
         | some (some p,some q,st')=>zNn p (zLg q (st'.force fun st'=>zXM T g r st' K))
         | none=>False
       | true=>False
     | _,_,_=>False
def z15 (T:Tab) (e:ETy) (ts:List TypeId) (src:AV) (hp:zAG):Option (Nat×List e.T) :=
 match ts,src.view hp with
 | [t, t'],.s (.sl e' (y::ys))=>match Nat.beq t t',T.desc t,decEq e' e with
   | true,.slice u,.isTrue h=>match T.info u with
     | some ui=>match Nat.beq ui.bytes 0,Nat.beq ui.size e.size,Nat.beq ui.size 0 with
       | false,true,false=>some (ui.bytes,h▸(y::ys))
       | _,_,_=>none
     | none=>none
   | _,_,_=>none
 | _,_=>none
def zS9 (o:Oper):List TypeId :=
 match o.op with
 | .call c=>c.argTypes.toList
 | _=>[]
def zB8 (n m b:Nat):Prop:=((n:Int)+m)*b<=140737488355328
def z2n (T :Tab) (g:zMJ) (oA:Oper) (r:List Oper) (st:St):Option (Prop×St×List Oper) :=
 match zJQ oA,zFx g.id st.hp with
 | some (.tmp t,y,s),true=>match Nat.beq t g.t,Nat.beq s g.h,hget st.hp g.id with
   | true, false,some (.gmap k e m)=>match k.dec g.kc,z15 T e (zS9 oA) (jW st.env y) st.hp with
     | some q,some (b,ys)=>match g.kind,r with
       | .upd,⟨d,.mapUpdate mt x kx (.tmp s'),_,_,_,none⟩::r'=>match zVQ T mt st (jW st.env x) (jW ((s,.junk)::st.env) kx),Nat.beq s s',jW ((s,.junk)::st.env) x with
         | some (id,kc,_),true,.s (.omp id')=>match k.dec kc,Nat.beq id g.id,Nat.beq id' g.id with
           | some q',true,true=>some (zB8 ((zA3 k m q).getD []).length ys.length b/\q'=q,(({st with hp:=zBZ st.hp g.id (.gmap k e (zAg k m q ((zA3 k m q).getD []++ys)))} :St).put (some s) .junk).put d .undef,r')
           | _,_,_=>none
         | _,_,_=>none
       | .ent,⟨some n,.extract (.tmp h) 1,_,_,_,none⟩::⟨d,.entryStore _ x (.tmp n') (.tmp s'),_,_,_,none⟩::r'=>match Nat.beq h g.h&&Nat.beq n n'&&Nat.beq s s',Nat.beq n s,jW ((n,.junk)::(s,.junk)::st.env) x with
         | true,false,.s (.omp id)=>match Nat.beq id g.id with
           | true=>some (zB8 ((zA3 k m q).getD []).length ys.length b,((({st with hp:=zBZ st.hp g.id (.gmap k e (zAg k m q ((zA3 k m q).getD []++ys)))} :St).put (some s) .junk).put (some n) .junk).put d .undef,r')
           | false=>none
         | _,_,_=>none
       | _,_=>none
     | _,_=>none
   | true, false,some (.grow e u xss)=>match g.kc,z15 T e (zS9 oA) (jW st.env y) st.hp with
     | [.int .i64 i],some (b,ys)=>match g.kind,r with
       | .cell,⟨some n,.indexAddr tt x ix,_,_,_,none⟩::⟨d,.store et (.tmp n') (.tmp s'),_,_,_,none⟩::r'=>match Nat.beq n n'&&Nat.beq s s',Nat.beq n s,zAl T tt st.hp (jW ((s,.junk)::st.env) x) (jW ((s,.junk)::st.env) ix) (Operand.lit ix) with
         | true,false,some (none,some q,.s (.ptr id j 0))=>match Nat.beq id g.id,Nat.beq (T.sizeOf et) 1 with
           | true,true=>some (zB8 (xss.getD i.toNat []).length ys.length b/\q/\j=i.toNat,((({st with hp:=zBZ st.hp g.id (.grow e u (xss.set j (xss.getD j []++ys)))} :St).put (some s) .junk).put (some n) .junk).put d .undef,r')
           | _,_=>none
         | _,_,_=>none
       | _,_=>none
     | _,_=>none
   | _,_,_=>none
 | _,_=>none
def zQE:List Oper->Nat->Option (Nat×Tmp)
 | [],_=>none
 | o::r,n=>match zJQ o with
   | some (.tmp t,_,_)=>some (n,t)
   | _=>zQE r (n+1)
def zLB (t:Tmp):List Oper->Nat->Option Nat->Option Nat
 | [],_,a=>a
 | o ::r,n,a=>match o.dst with
   | some d=>match Nat.beq d t with
     | true=>zLB t r (n+1) (some n)
     | false=>zLB t r (n+1) a
   | none=>zLB t r (n+1) a
def z2v (l:List Oper):Option Nat :=
 match zQE l 0 with
 | some (j,t)=>match zLB t (l.take j) 0 none with
   | some i=>match (l.drop i).head? with
     | some o=>match o.op,i with
       | .lookup _ _ _ false,i=>some i
       | .load _ _,i=>some i
       | .extract _ 0,i+1=>some i
       | _,_=>none
     | none=>none
   | none=>none
 | none=>none
def zZJ (T:Tab) (ops:Array Oper) (l:List Oper) (st:St) (K:St->Prop):Prop :=
 match zUM T l st with
 | some (g,st1,r)=>st1.force fun st1=>zXM T g r st1 fun st2 oA r2=>match z2n T g oA r2 st2 with
   | some (q,st3,r3)=>zLg q (st3.force fun st3=>zBj T false ops r3 st3 K)
   | none=>False
 | none=>zBj T false ops l st K
def zYO (T:Tab) (ops:Array Oper) (st:St) (K:St->Prop):Prop :=
 match z2v ops.toList with
 | some i=>zBj T false ops (ops.toList.take i) st fun st=>zZJ T ops (ops.toList.drop i) st K
 | none=>zBj T false ops ops.toList st K
def waits (ops:Array Oper) (j i:Nat):Bool:=match ops[j]? with
 | some o=>o.after.any fun e=>Region.binds .any e&&e.on==i
 | none=>false
def twl (ops:Array Oper) (i:Nat):Nat->List Nat->Bool
 | 0,_=>false
 | n+1,acc=>match acc.any (fun a=>waits ops a (i+n)) with
   | true=>Nat.beq n 0|| twl ops i n ((i+n)::acc)
   | false=>twl ops i n acc
def zDN (ops:Array Oper) (j i:Nat):Bool:=twl ops i (j - i) [j]
def zFP (ops:Array Oper):Nat->Nat->Array Bool->Bool
 | 0,_,listed=>(Region.ready .any ops listed).isEmpty
 | m+1,t,listed=>(Region.ready .any ops listed==[t])&&zFP ops m (t+1) (listed.setIfInBounds t true)
def zFF (ops:Array Oper):Nat->List Nat->Bool
 | 0,_=>true
 | i+1,acc=>match acc.any (fun j=>waits ops j i) with
   | true=>zFF ops i (i::acc)
   | false=>false
def zVo:Op->Bool
 | .alloc _=>true
 | .box _ _=>true
 | .makeMap _ none=>true
 | .makeSlice _ _ _=>true
 | _=>false
def zKY (o:Oper):List Tmp:=o.op.operands.toList.filterMap fun x=>match x with|.tmp t=>some t|_=>none
def z8v:Op->Bool
 | .call c=>match c.callee with
   | .builtin .append=>true
   | _=>false
 | _=>false
def zRZ (ap:Bool) (ops:Array Oper) (k i:Nat):Bool:=match ops[i]? with
 | some o=>o.guard.isNone&&o.dst.isSome&&(jN o.op|| zVo o.op|| (ap&&z8v o.op))&&(o.after.toList.all fun e=> !Region.binds .any e|| Nat.blt e.on i) &&
    (List.range k).all fun j=>match ops[j]? with
      | some oj=>match oj.dst with
        | some d=>(Nat.beq j i|| !(o.dst==some d))&&(!(zKY o).contains d|| (Nat.blt j i&&zDN ops i j))
        | none=>true
      | none=>true
 | none=>false
def zHa (ap:Bool):List Oper->Nat
 | []=>0
 | o::l=>match (jN o.op|| zVo o.op|| (ap&&z8v o.op))&&o.guard.isNone&&o.dst.isSome with|true=>zHa ap l+1|false=>0
def zPR (ap:Bool) (ops:Array Oper) (k:Nat):Bool :=
 Nat.ble k ops.size&&((List.range k).all (zRZ ap ops k)&&((List.range ops.size).all (fun j=>Nat.blt j k|| zFF ops j [j]) &&
  zFP ops (ops.size - k) k ((List.range k).foldl (fun l i=>l.setIfInBounds i true) (Array.replicate ops.size false))))
def zEv (T:Tab) (op:Op) (ev:Operand->AV):Option (Option Prop×Ob×(Nat->AS)) :=
 match op with
 | .call c =>match c.callee with
   | .value (.func f)=>match zEt T.fr f with
     | some (.res g)=>match (c.args.toList.map ev).all AV.clear,g (c.args.toList.map ev) with
       | true,some (none,q,.s (.own 0 0 n),[.row e u xs])=>some (q,.row e u xs,fun i=> .own i 0 n)
       | _,_=>none
     | _=>none
   | .builtin .append=>match c.args.toList.map ev,c.argTypes.toList with
     | [.s (.emp e),.s (.sl e' ys)],[t,t']=>match Nat.beq t t',T.desc t with
       | true,.slice u=>match decEq e' e,T.info u with
         | .isTrue _,some ui=>match Nat.beq ui.bytes 0,Nat.beq ui.size e.size,Nat.beq ui.size 0 with
           | false,true,false=>some (some ((ys.length:Int)*ui.bytes<=140737488355328),.row e' u ys,fun i=> .own i 0 ys.length)
           | _,_,_=>none
         | _,_=>none
       | _,_=>none
     | _,_=>none
   | _=>none
 | _=>none
def St.mk' (st:St) (d:Option Tmp) (ob:Ob) (ref:Nat->AS):St:=({st with hp:=(st.next,ob)::st.hp,next:=st.next+1} :St).put d (.s (ref st.next))
def zHX (T:Tab):List Oper->Bool
 | []=>false
 | o ::l=>match o.op with
   | .call c=>match c.callee with
     | .value (.func f)=>match zEt T.fr f with
       | some (.res _)=>true
       | _=>zHX T l
     | _=>zHX T l
   | _=>zHX T l
def zIA (T:Tab) (ops:Array Oper):Nat->List Oper->St->(St->Prop)->Prop
 | k +1,o::l,st,K=>match zEv T o.op (jW st.env) with
   | some (none,ob,ref)=>(st.mk' o.dst ob ref).force fun st=>zIA T ops k l st K
   | some (some q,ob,ref)=>zLg q ((st.mk' o.dst ob ref).force fun st=>zIA T ops k l st K)
   | none=>match z8v o.op with
     | true=>False
     | false=>zRM T true o st fun st=>zIA T ops k l st K
 | _,l,st,K=>zBj T true ops l st K
def zEy (b:Bool) (p:Prop):Prop:=b=true/\p
theorem zEy.intro {b:Bool} {p:Prop} (h:b=true) (h':p):zEy b p:=⟨h,h'⟩
theorem zEy.out {b:Bool} {p:Prop} (h:zEy b p):b=true/\p:=h
attribute [irreducible] zEy
def twB (ops:Array Oper) (i:Nat):Nat->List Nat->Bool
 | 0,_=>false
 | n+1,acc=>match acc.any (fun a=>match ops[a]? with|some o=>zXO (i+n) o|none=>false) with
   | true=>Nat.beq n 0|| twB ops i n ((i+n)::acc)
   | false=>twB ops i n acc
def zSz (ops:Array Oper) (j i:Nat):Bool:=twB ops i (j - i) [j]
def z3D (ops:Array Oper) (f:Nat):Nat->Bool
 | 0=>true
 | i+1=>match zSz ops f i with
   | true=>z3D ops f i
   | false=>false
def storeAt (ops:Array Oper):List Oper->Nat->Bool
 | [],_=>false
 | o ::l,f=>match jN o.op with
   | true=>storeAt ops l (f+1)
   | false=>match zK7 o with
     | true=> !z3D ops f f
     | false=>false
def zY1 (ops:Array Oper):List Oper->Nat->Bool
 | [],_=>false
 | o ::l,f=>match jN o.op with
   | true=>zY1 ops l (f+1)
   | false=>match zJQ o with
     | some _=> !z3D ops f f
     | none=>false
def zQb (o:Oper) (t:Tmp):Bool:=match o.op,o.dst with
 | .buildSlice _ 0 _,some d=>Nat.beq d t
 | _,_=>false
def zPw (t:Tmp):List Oper->Bool
 | []=>false
 | o::l=>match zQb o t with|true=>true|false=>zPw t l
def zO2 (ops:Array Oper):List Oper->Nat->Bool
 | [],_=>false
 | o ::l,f=>match zJQ o with
   | some (.tmp x,_,_)=>zPw x (ops.toList.take f)
   | some _=>false
   | none=>match jN o.op with
     | true=>zO2 ops l (f+1)
     | false=>false
def St.ghost (st:St):St:= {st with hp:=(st.next,.row .unit 0 [])::st.hp,next:=st.next+1}
def zVA (n:Nat) (K:Nat->Prop):Prop:=match n with
 | 0=>K 0
 | 1=>K 1
 | 2=>K 2
 | 3=>K 3
 | 4=>K 4
 | 5=>K 5
 | 6=>K 6
 | 7=>K 7
 | 8=>K 8
 | 9=>K 9
 | 10=>K 10
 | 11=>K 11
 | 12=>K 12
 | 13=>K 13
 | 14=>K 14
 | 15=>K 15
 | 16=>K 16
 | 17=>K 17
 | 18=>K 18
 | 19=>K 19
 | 20=>K 20
 | 21=>K 21
 | 22=>K 22
 | 23=>K 23
 | 24=>K 24
 | 25=>K 25
 | 26=>K 26
 | 27=>K 27
 | 28=>K 28
 | 29=>K 29
 | 30=>K 30
 | 31=>K 31
 | 32=>K 32
 | 33=>K 33
 | 34=>K 34
 | 35=>K 35
 | 36=>K 36
 | 37=>K 37
 | 38=>K 38
 | 39=>K 39
 | 40=>K 40
 | n=>K n
theorem zII (n:Nat) (K:Nat->Prop):zVA n K=K n:=by unfold zVA;split<;>rfl
def zRL (o:Oper):Bool:=match zJQ o with
 | some _=>true
 | none=>zK7 o
def z2T:List Oper->Nat
 | []=>0
 | o ::l=>match jN o.op with
   | true=>z2T l+1
   | false=>match zRL o with
     | true=>z2T l+1
     | false=>0
def z0H:List (Nat×Nat×Bool)->Nat->Nat
 | [],_=>0
 | (i,v,_)::r,j=>match Nat.beq i j with
   | true=>v
   | false=>z0H r j
def zPd (L:List (Nat×Nat×Bool)):List Edge->Nat->Nat
 | [],m=>m
 | e ::r,m=>match (match e.ground with|.textOnly _=>false|.gcOnly _=>false|_=>true) with
   | true=>match Nat.ble m (z0H L e.on) with
     | true=>zPd L r (z0H L e.on)
     | false=>zPd L r m
   | false=>zPd L r m
def zQ2:List Oper->Nat->Nat->List (Nat×Nat×Bool)->(List (Nat×Nat×Bool)->Nat->Prop)->Prop
 | [],_,m,L,K=>K L m
 | o::l,i,m,L,K=>match zRL o with
   | true=>zVA (m+1) fun m1=>zVA (i+1) fun i1=>zQ2 l i1 m1 ((i,m1,true)::L) K
   | false=>zVA (zPd L o.after.toList 0) fun v=>zVA (i+1) fun i1=>zQ2 l i1 m ((i,v,false)::L) K
def z0S (b:Bool) (v:Nat):List (Nat×Nat×Bool)->List Nat->List Nat
 | [],acc=>acc
 | (i,u,c)::r,acc=>match Nat.beq u v,b,c with
   | true,true,true=>z0S b v r (i::acc)
   | true,false,false=>z0S b v r (i::acc)
   | _,_,_=>z0S b v r acc
def zW3 (ops:Array Oper) (j v:Nat):List (Nat×Nat×Bool)->List Nat->List Nat
 | [],acc=>acc
 | (i,u,c)::r,acc=>match c,Nat.blt u v with
   | false,true=>match zSz ops j i with
     | true=>zW3 ops j v r acc
     | false=>zW3 ops j v r (i::acc)
   | _,_=>zW3 ops j v r acc
def z2Q (ops:Array Oper) (L:List (Nat×Nat×Bool)):Nat->Nat->List (Nat×List Nat)
 | 0,v=>(z0S false v L []).map fun i=>(i,[])
 | n+1,v=>((z0S false v L []).map fun i=>(i,[]))++(((z0S true (v+1) L []).map fun i=>(i,zW3 ops i (v+1) L []))++z2Q ops L n (v+1))
def zPi:List Nat->(List Nat->Prop)->Prop
 | [],K=>K []
 | a::r,K=>zVA a fun a=>zPi r fun r=>K (a::r)
def zIM:List (Nat×List Nat)->(List (Nat×List Nat)->Prop)->Prop
 | [],K=>K []
 | (i,p)::r,K=>zVA i fun i=>zPi p fun p=>zIM r fun r=>K ((i,p)::r)
def zWG (ops:Array Oper) (env:Env) (o:Oper):Option Bool:=match o.guard with
 | none=>some true
 | some (j,want)=>match zD6 ops env j with
   | .s (.bool true)=>some want
   | .s (.bool false)=>some (!want)
   | .s (.val (.tuple _))=>some false
   | _=>none
def zXJ (T:Tab) (ops:Array Oper) (st st':St):List Nat->Prop->Prop
 | [],P=>P
 | p ::r,P=>match ops[p]? with
   | some o=>match o.dst with
     | some d=>match zWG ops st.env o,zWG ops st'.env o with
       | some true,some true=>zL8 (zAh T o.op (jW st.env) st.hp) (zAh T o.op (jW st'.env) st'.hp) (qQ st'.env d=qQ st.env d/\zXJ T ops st st' r P)
       | some false,some false=>qQ st'.env d=qQ st.env d/\zXJ T ops st st' r P
       | _,_=>False
     | none=>False
   | none=>False
def zMb (T:Tab) (ops:Array Oper):List (Nat×List Nat)->St->(St->Prop)->Prop
 | [],st,K=>K st
 | (i,pd)::l,st,K=>match ops[i]? with
   | some o=>zBj T true ops [o] st fun st'=>zXJ T ops st st' pd (zMb T ops l st' K)
   | none=>False
def zEV (ops:Array Oper) (i:Nat):Bool:=match ops[i]? with
 | some o=>jN o.op
 | none=>false
def zSl (ops:Array Oper) (p i:Nat):Bool:=match ops[p]?,ops[i]? with
 | some a,some b=>(match a.dst with|some d=> !(b.looksAt ops).contains d&& !(b.dst==some d)|none=>true)&&(match b.dst with|some d=> !(a.looksAt ops).contains d|none=>true)
 | _,_=>false
def zUR (ops:Array Oper) (p i:Nat):Bool:=match ops[p]?,ops[i]? with
 | some a,some b=>match b.dst with|some d=> !(a.looksAt ops).contains d&& !(a.dst==some d)|none=>true
 | _,_=>false
def z0Y (ops:Array Oper) (p:Nat):Bool:=match ops[p]? with
 | some a=>match a.dst with|some d=> !(a.looksAt ops).contains d|none=>true
 | none=>false
def zPn (ops:Array Oper) (pd:List Nat):List Nat->Bool
 | []=>true
 | i::r=>r.all (fun p=> !pd.contains p|| zUR ops p i)&&zPn ops pd r
def okJ (ops:Array Oper) (pre:List Nat) (j:Nat) (pd:List Nat):Bool:=match ops[j]? with
 | some o=>(jN o.op|| zRL o)&&(o.after.toList.all (fun e=> !Region.binds .any e|| pre.contains e.on)&&(pre.all (fun p=>zDN ops j p|| (zEV ops p&&zSl ops p j)) &&
    (jN o.op|| (pre.all (fun p=> !zEV ops p|| zDN ops j p|| (pd.contains p&&z0Y ops p))&&zPn ops pd pre))))
 | none=>false
def okW (ops:Array Oper):List Nat->List (Nat×List Nat)->Bool
 | _,[]=>true
 | pre,(j,pd)::r=> !pre.contains j&&(okJ ops pre j pd&&okW ops (j::pre) r)
def okG (ops:Array Oper) (cl:List (Nat×List Nat)):Bool :=
 Nat.ble cl.length ops.size&&(cl.all (fun x=>Nat.blt x.1 cl.length)&&(okW ops [] cl&&((List.range ops.size).all (fun j=>Nat.blt j cl.length|| zFF ops j [j]) &&
  zFP ops (ops.size - cl.length) cl.length ((List.range cl.length).foldl (fun l i=>l.setIfInBounds i true) (Array.replicate ops.size false)))))
def zZt (T:Tab) (ops:Array Oper) (st:St) (K:St->Prop):Prop :=
 zVA (z2T ops.toList) fun k=>zQ2 (ops.toList.take k) 0 0 [] fun L m=>zIM (z2Q ops L m 0) fun cl=>zEy (okG ops cl) (zMb T ops cl st fun st1=>zBj T true ops (ops.toList.drop cl.length) st1 K)
def zIq (T:Tab):List Oper->Bool
 | []=>false
 | o ::l=>match o.op with
   | .call c=>match c.callee with
     | .value (.func f)=>match zEt T.fr f with
       | some (.run _)=>true
       | _=>zIq T l
     | _=>zIq T l
   | _=>zIq T l
def z0w (T:Tab):List Oper->Nat
 | []=>0
 | o::l=>match zIq T [o] with
   | true=>0
   | false=>z0w T l+1
def zZz (T:Tab) (ops:Array Oper) (st:St) (K:St->Prop):Prop :=
 zVA (z0w T ops.toList) fun k=>zQ2 (ops.toList.take k) 0 0 [] fun L m=>zIM (z2Q ops L m 0) fun cl=>zEy (okG ops cl) (zMb T ops cl st fun st1=>zBj T false ops (ops.toList.drop cl.length) st1 K)
def z8c:List Oper->Bool
 | []=>false
 | o ::l=>match zVo o.op with
   | true=>match o.after.toList with
     | []=>true
     | _=>z8c l
   | false=>z8c l
def zOS (T:Tab) (ops:Array Oper) (draw:Bool) (st:St) (K:St->Prop):Prop :=
 match draw with
 | true => match zO2 ops ops.toList 0 with
  | true=>match z8c ops.toList with
   | true=>zEy (zPR true ops (zHa true ops.toList)) (zIA T ops (zHa true ops.toList) ops.toList st K)
   | false=>st.ghost.force fun st=>zZt T ops st K
  | false=>match zNf ops ops.toList 0 with
   | true=>zZt T ops st K
   | false =>match zHX T ops.toList with
     | false=>match zY1 ops ops.toList 0 with
       | true=>zZt T ops st K
       | false=>match storeAt ops ops.toList 0 with
         | true=>zZt T ops st K
         | false=>match zIq T ops.toList with
           | true=>zZz T ops st K
           | false=>zBj T true ops ops.toList st K
     | true=>zEy (zPR false ops (zHa false ops.toList)) (zIA T ops (zHa false ops.toList) ops.toList st K)
 | false=>zYO T ops st K
def zBD (T:Tab):Code->St->(Exit->St->Prop)->Prop
 | .skip,st,K=>K .normal st
 | .label _,st,K=>K .normal st
 | .region _ ops draw,st,K=>zOS T ops draw st (K .normal)
 | .seq a b,st,K=>zBD T a st (fun e s=>match e with
   | .normal=>zBD T b s K
   | e=>K e s)
 | .cond c a b,st,K=>match jW st.env c with
   | .s (.bool t)=>BIf t (zBD T a st K) (zBD T b st K)
   | .s (.nq false _ xs)=>zWD (zNn (xs=[]) (zBD T a st K)) (zBD T b st K)
   | .s (.nq true _ xs)=>zWD (zBD T a st K) (zNn (xs=[]) (zBD T b st K))
   | _=>False
 | .block id c,st,K=>zBD T c st (fun e s=>match e with
   | .exit i=>match Nat.beq i id with|true=>K .normal s|false=>K (.exit i) s
   | e=>K e s)
 | .loop c,st,K=>(∃ n,rounds (zBD T c) K n st)\/(∃ (X:Type) (S:Spec X),zFz T (z0Q (fun st=>(∃ x,S.inv x/\zOZ st (S.head st x))/\
    ∀ x,S.inv x->(S.head st x).forceAll fun h=>zBD T c h (fun e s=>match e with
      | .normal=>z0Q (fun s=> ∃ y,S.inv y/\zOZ s (S.head st y)/\S.mu y<S.mu x) S.frz s
      | e=>K e s)) S.frz) S.nils st)
 | .exit i,st,K=>K (.exit i) st
 | .goto l,st,K=>K (.goto l) st
 | .ret,st,K=>K .ret st
 | .scope c,st,K=>zBD T c st K
 | _,_,_=>False
def zGv:Nat->List AV->Env
 | _,[]=>[]
 | i,v::r=>(i,v)::zGv (i+1) r
def St.init (args:List AV):St:= {env:=zGv 0 args,hp:=[],next:=0}
def zGC (T:Tab) (st:St):ResultVar->AV
 | .tmp t=>(qQ st.env t).viewT T st.hp
 | .cell a t=>match qQ st.env a with
   | .s (.ptr id i k)=>match zK8 T t st.hp (.s (.ptr id i k)) with
     | some (none,none,v)=>v.viewT T st.hp
     | _=> .junk
   | _=> .junk
def zF9 (T:Tab) (st:St):ResultVar->Bool
 | .tmp _=>true
 | .cell a t=>match qQ st.env a with
   | .s (.ptr id i k)=>match zK8 T t st.hp (.s (.ptr id i k)) with
     | some (none,none,_)=>true
     | _=>false
   | _=>false
def zJc (T:Tab) (fn:Func) (st:St):AV :=
 match fn.results.toList with
 | [r]=>zGC T st r
 | rs=> .tup (rs.map (zGC T st))
def post (T:Tab) (fn:Func) (R:AV->Prop):Exit->St->Prop
 | .normal,st=>match fn.results.toList.all (zF9 T st) with
   | true=>(zJc T fn st).force R
   | false=>False
 | .ret,st=>match fn.results.toList.all (zF9 T st) with
   | true=>(zJc T fn st).force R
   | false=>False
 | _,_=>False
def AV.parts:AV->List AS
 | .s a=>[a]
 | .agg l=>l
 | .tup l=>l.flatMap fun v=>match v with
   | .s a=>[a]
   | .agg l=>l
   | .tup _=>[]
def zBH:List AS->List Nat
 | []=>[]
 | .own i _ _::r=>i::zBH r
 | _::r=>zBH r
def nodupB:List Nat->Bool
 | []=>true
 | k::r=> !zR4 k r&&nodupB r
def zOu (i:Nat):List Nat->Nat->Option Nat
 | [],_=>none
 | k::r,n=>match Nat.beq k i with|true=>some n|false=>zOu i r (n+1)
def zQR (ids:List Nat):AS->AS
 | .own i s k=>match zOu i ids 0 with|some n=> .own n s k|none=> .junk
 | .ptr _ _ _=> .junk
 | .pti _ _ _=> .junk
 | .omp _=> .junk
 | .arr _ _=> .junk
 | a=>a
def Ob.isRow:Ob->Bool
 | .row _ _ _=>true
 | _=>false
def zKy (hp:zAG):List Nat->Bool
 | []=>true
 | i::r=>match hget hp i with
   | some o=>o.isRow&&zKy hp r
   | none=>false
def zJP (hp:zAG):List Nat->List Ob
 | []=>[]
 | i::r=>match hget hp i with
   | some o=>o::zJP hp r
   | none=>zJP hp r
def zEG (T:Tab) (st:St):ResultVar->AV
 | .tmp t=>qQ st.env t
 | .cell a t=>match qQ st.env a with
   | .s (.ptr id i k)=>match zK8 T t st.hp (.s (.ptr id i k)) with
     | some (none,none,v)=>v
     | _=> .junk
   | _=> .junk
def zAe (T:Tab) (fn:Func) (st:St):AV :=
 match fn.results.toList with
 | [r]=>zEG T st r
 | rs=> .tup (rs.map (zEG T st))
def zJT:List Nat->Env->Env
 | _,[]=>[]
 | s,(t,v)::r=>match zR4 t s with
   | true=>zJT s r
   | false=>(t,match v with|.tup _=> .junk|v=>v)::zJT (t::s) r
def zQS (T:Tab) (fn:Func) (R:AV->List Ob->Prop):Exit->St->Prop
 | .normal,st=>match fn.results.toList.all (zF9 T st)&&(nodupB (zBH (zAe T fn st).parts)&&zKy st.hp (zBH (zAe T fn st).parts)) with
   | true=>((zAe T fn st).mapAS (zQR (zBH (zAe T fn st).parts))).force fun v=>R v (zJP st.hp (zBH (zAe T fn st).parts))
   | false=>False
 | .ret,st=>match fn.results.toList.all (zF9 T st)&&(nodupB (zBH (zAe T fn st).parts)&&zKy st.hp (zBH (zAe T fn st).parts)) with
   | true=>((zAe T fn st).mapAS (zQR (zBH (zAe T fn st).parts))).force fun v=>R v (zJP st.hp (zBH (zAe T fn st).parts))
   | false=>False
 | _,_=>False
def zGL (T:Tab) (fn:Func) (args:List AV) (R:AV->List Ob->Prop):Prop :=
 match fn.body with
 | some c=>(St.init args).forceAll fun s=>zBD T c s (zQS T fn R)
 | none=>False
def zB7 (T:Tab) (fn:Func) (args:List AV) (R:AV->Prop):Prop :=
 match fn.body with
 | some c=>(St.init args).forceAll fun s=>zBD T c s (post T fn R)
 | none=>False
end Go.Vm
namespace Go.Vm
structure Below (n:Nat) (w w':World):Prop extends Go.RowKit.Below n w w' where
 drawn:w.drawn<=w'.drawn
theorem Below.refl (n:Nat) (w:World):Below n w w:=⟨Go.RowKit.Below.refl n w,zI _⟩
theorem Below.trans {n:Nat} {a b c:World} (h:Below n a b) (k:Below n b c):Below n a c:=⟨h.toBelow.trans k.toBelow,qT h.drawn k.drawn⟩
theorem Below.mono {n n':Nat} {w w':World} (h:Below n w w') (hn:n'<=n):Below n' w w':=⟨h.toBelow.mono hn,h.drawn⟩
theorem Below.drew {n:Nat} {a w:World} (h:Below n a w):Below n a w.drew:=⟨h.toBelow.drew,qT h.drawn (Nat.le_succ _)⟩
theorem Below.alloc {n:Nat} {a w:World} (h:Below n a w) (hn:n<=w.heap.size) (o:Obj):Below n a (w.alloc o):=⟨h.toBelow.alloc hn o,h.drawn⟩
open Go.RowKit
def jZ {α M:Type} (R:α->M->Prop):List α->List M->Prop
 | [],[]=>True
 | a::l,b::m=>R a b/\jZ R l m
 | _,_=>False
section all2
variable {α M:Type} {R S:α->M->Prop}
theorem jZ.length: ∀ {l:List α} {m:List M},jZ R l m->l.length=m.length
 | [],[],_=>rfl
 | _::_,_::_,h=>by simp [jZ.length h.2]
 | [],_::_,h=>h.elim
 | _::_,[],h=>h.elim
theorem jZ.mono (f: ∀ a b,R a b->S a b): ∀ {l:List α} {m:List M},jZ R l m->jZ S l m
 | [],[],_=>trivial
 | _::_,_::_,h=>⟨f _ _ h.1,jZ.mono f h.2⟩
 | [],_::_,h=>h.elim
 | _::_,[],h=>h.elim
theorem jZ.append: ∀ {l:List α} {m:List M} {l' m'},jZ R l m->jZ R l' m'->jZ R (l++l') (m++m')
 | [],[],_,_,_,h=>h
 | _::_,_::_,_,_,h,h'=>⟨h.1,jZ.append h.2 h'⟩
 | [],_::_,_,_,h,_=>h.elim
 | _::_,[],_,_,h,_=>h.elim
theorem jZ.get: ∀ {l:List α} {m:List M},jZ R l m->∀ {i:Nat} {a:α},l[i]? =some a->∃ b,m[i]? =some b/\R a b
 | [],[],_,_,_,h=>by simp at h
 | _::_,b::_,h,0,a,e=>by simp at e;subst e;exact ⟨b,rfl,h.1⟩
 | _::_,_::_,h,i+1,a,e=>by simpa using jZ.get h.2 (by simpa using e)
 | [],_::_,h,_,_,_=>h.elim
 | _::_,[],h,_,_,_=>h.elim
theorem jZ.take: ∀ {l:List α} {m:List M} (k:Nat),jZ R l m->jZ R (l.take k) (m.take k)
 | [],[],_,h=>by simpa using h
 | _::_,_::_,0,_=>trivial
 | _::_,_::_,k+1,h=>⟨h.1,jZ.take k h.2⟩
 | [],_::_,_,h=>h.elim
 | _::_,[],_,h=>h.elim
theorem jZ.drop: ∀ {l:List α} {m:List M} (k:Nat),jZ R l m->jZ R (l.drop k) (m.drop k)
 | [],[],_,h=>by simpa using h
 | _::_,_::_,0,h=>h
 | _::_,_::_,k+1,h=>jZ.drop k h.2
 | [],_::_,_,h=>h.elim
 | _::_,[],_,h=>h.elim
theorem jZ.map {γ:Type} {T:γ->M->Prop} (f:α->γ) (hf: ∀ a b,R a b->T (f a) b): ∀ {l:List α} {m:List M},jZ R l m->jZ T (l.map f) m
 | [],[],_=>trivial
 | _::_,_::_,h=>⟨hf _ _ h.1,jZ.map f hf h.2⟩
 | [],_::_,h=>h.elim
 | _::_,[],h=>h.elim
theorem jZ.split: ∀ {l l':List α} {m:List M},jZ R (l++l') m->∃ m1 m2,m=m1++m2/\jZ R l m1/\jZ R l' m2
 | [],_,m,h=>⟨[],m,rfl,trivial,h⟩
 | a::l,l',b::m,h=>by
   obtain ⟨m1,m2,e,h1,h2⟩:=jZ.split (l:=l) (l':=l') h.2;exact ⟨b::m1,m2,by simp [e],⟨h.1,h1⟩,h2⟩
 | _::_,_,[],h=>h.elim
end all2
abbrev Sig:=Nat->Option Obj
def zCJ (I:Sig) (b o:Nat) (ds:List Value):Prop :=
 ∃ c T fz,I b=some (.cells c T fz)/\∀ j d,ds[j]? =some d->c[o+j]? =some d
def Ole (o o':Obj):Prop:=o=o'\/∃ c c' T fz,o= .cells c T fz/\o'= .cells c' T fz/\∀ (j:Nat) (v:Value),c[j]? =some v->c'[j]? =some v
theorem Ole.refl {o:Obj} :Ole o o:= .inl rfl
theorem Ole.trans {o o' o'':Obj} (h:Ole o o') (k:Ole o' o''):Ole o o'':=by
 rcases h with rfl|⟨c,c',T,fz,e1,e2,h⟩
 ·exact k
 ·rcases k with rfl|⟨d,d',T',fz',e3,e4,k⟩
  ·exact .inr ⟨c,c',T,fz,e1,e2,h⟩
  ·rw [e2] at e3;cases e3;exact .inr ⟨c,d',T,fz,e1,e4,fun j v hj=>k j v (h j v hj)⟩
theorem Ole.map {es:Array MapEntry} {clock:Nat} {o:Obj} (h:Ole (.map es clock) o):o= .map es clock:=by
 rcases h with h|⟨_,_,_,_,e,_⟩
 ·exact h.symm
 ·cases e
theorem Ole.cells {c:Array Value} {T:TypeId} {fz:Nat×Nat} {o:Obj} (h:Ole (.cells c T fz) o): ∃ c',o= .cells c' T fz/\∀ (j:Nat) (v:Value),c[j]? =some v->c'[j]? =some v:=by
 rcases h with h|⟨_,c',_,_,e,e2,k⟩
 ·exact ⟨c,h.symm,fun _ _ e=>e⟩
 ·cases e;exact ⟨c',e2,k⟩
def Sig.le (I τ:Sig):Prop:= ∀ b o,I b=some o->∃ o',τ b=some o'/\Ole o o'
theorem Sig.le.refl (I:Sig):I.le I:=fun _ o h=>⟨o,h,.refl⟩
theorem Sig.le.trans {I τ υ:Sig} (h:I.le τ) (k:τ.le υ):I.le υ:=fun b o e=>by
 obtain ⟨o',e1,h1⟩:=h b o e;obtain ⟨o'',e2,h2⟩:=k b o' e1;exact ⟨o'',e2,h1.trans h2⟩
def Ag (I:Sig) (w:World):Prop:= ∀ b o,I b=some o->∃ o',w.heap[b]? =some o'/\Ole o o'
theorem Ag.lt {I:Sig} {w:World} (h:Ag I w) {b:Nat} {o:Obj} (e:I b=some o):b<w.heap.size:=by
 obtain ⟨_,e1,_⟩:=h b o e;exact (zR.1 e1).1
theorem zCJ.mono {I τ:Sig} (h:I.le τ) {b o:Nat} {ds:List Value} :zCJ I b o ds->zCJ τ b o ds :=
 fun ⟨c,T,fz,e,r⟩=>by
  obtain ⟨o',e1,h1⟩:=h _ _ e;obtain ⟨c',rfl,k⟩:=h1.cells;exact ⟨c',T,fz,e1,fun j d hj=>k _ _ (r j d hj)⟩
def InK (k:IntKind) (n:Int):Prop:=k.wrap n=n
def yY (e:ETy) (d:List Value):Value :=
 match e,d with
 | .arr2,d=> .agg d.toArray
 | .arr3,d=> .agg d.toArray
 | .pair _ _,d=> .agg d.toArray
 | _,[v]=>v
 | _,d=> .agg d.toArray
def jI (I:Sig):(e:ETy)->e.T->List Value->Prop
 | .int k,n,ds=>ds=[.int k n]/\InK k n
 | .bool,b,ds=>ds=[.bool b]
 | .arr2,x,ds=>ds=[.int .i64 x.1,.int .i64 x.2]/\InK .i64 x.1/\InK .i64 x.2
 | .arr3,x,ds=>ds=[.int .i64 x.1,.int .i64 x.2.1,.int .i64 x.2.2]/\InK .i64 x.1/\InK .i64 x.2.1/\InK .i64 x.2.2
 | .pair a b,x,ds=> ∃ d1 d2,ds=d1++d2/\jI I a x.1 d1/\jI I b x.2 d2
 | .sl e,xs,ds=> ∃ a cap,ds=[.slice a xs.length cap]/\xs.length<=140737488355328/\xs.length<=cap/\
    (xs≠[]->∃ b o,a=some ⟨b,o,none⟩/\∀ i x,xs[i]? =some x->∃ d,jI I e x d/\zCJ I b (o+i*e.size) d)
 | .mp k v,m,ds=> ∃ r,ds=[.map r]/\(m.map (·.1)).Nodup/\(r=none->m=[])/\∀ b,r=some b->∃ es clock,I b=some (.map es clock)/\(es.size=m.length/\MapKept.Stamped es clock)/\
    ∀ (i:Nat) (x:k.T×v.T),m[i]? =some x->∃ (en:MapEntry) (dk dv:List Value),es[i]? =some en/\jI I k x.1 dk/\en.key=yY k dk/\jI I v x.2 dv/\en.val=yY v dv
 | .pt e,o,ds=>match o with
   | none=>ds=[.pointer none]
   | some x=> ∃ b off d,ds=[.pointer (some ⟨b,off,none⟩)]/\jI I e x d/\zCJ I b off d
 | .unit,_,ds=>ds=[]
 | .fnc,o,ds=>ds=[fnV o]
theorem jI.length {I:Sig} : ∀ {e:ETy} {x:e.T} {ds:List Value},jI I e x ds->ds.length=e.size
 | .int _,_,_,h=>by rw [h.1];rfl
 | .bool,_,_,h=>by rw [show _=_ from h];rfl
 | .arr2,_,_,h=>by rw [h.1];rfl
 | .arr3,_,_,h=>by rw [h.1];rfl
 | .pair _ _,_,_,h=>by obtain ⟨d1,d2,rfl,h1,h2⟩:=h;simp [ETy.size,h1.length,h2.length]
 | .sl _,_,_,h=>by obtain ⟨a,cap,rfl,_⟩:=h;rfl
 | .mp _ _,_,_,h=>by obtain ⟨r,rfl,_⟩:=h;rfl
 | .pt _,none,_,h=>by rw [show _=_ from h];rfl
 | .pt _,some _,_,h=>by obtain ⟨b,off,d,rfl,_⟩:=h;rfl
 | .unit,_,_,h=>by rw [show _=_ from h];rfl
 | .fnc,_,_,h=>by rw [show _=_ from h];rfl
theorem jI.mono {I τ:Sig} (hs:I.le τ): ∀ {e:ETy} {x:e.T} {ds:List Value},jI I e x ds->jI τ e x ds
 | .int _,_,_,h=>h
 | .bool,_,_,h=>h
 | .arr2,_,_,h=>h
 | .arr3,_,_,h=>h
 | .pair _ _,_,_,h=>by obtain ⟨d1,d2,rfl,h1,h2⟩:=h;exact ⟨d1,d2,rfl,h1.mono hs,h2.mono hs⟩
 | .sl _,_,_,h=>by
   obtain ⟨a,cap,rfl,hl,hc,h⟩:=h;refine ⟨a,cap,rfl,hl,hc,fun hne=> ?_⟩;obtain ⟨b,o,ha,hr⟩:=h hne;exact ⟨b,o,ha,fun i x hx=>let ⟨d,h1,h2⟩:=hr i x hx;⟨d,h1.mono hs,h2.mono hs⟩⟩
 | .mp _ _,_,_,h=>by
   obtain ⟨r,rfl,hl,hn,h⟩:=h;refine ⟨r,rfl,hl,hn,fun b hb=> ?_⟩;obtain ⟨es,clock,h1,h2,h3⟩:=h b hb;obtain ⟨o',q1,q2⟩:=hs _ _ h1;obtain rfl:=q2.map;exact ⟨es,clock,q1,h2,fun i x hx=>let ⟨en,dk,dv,e1,e2,e3,e4,e5⟩:=h3 i x hx;⟨en,dk,dv,e1,e2.mono hs,e3,e4.mono hs,e5⟩⟩
 | .pt _,none,_,h=>h
 | .pt _,some _,_,h=>by obtain ⟨b,off,d,rfl,h1,h2⟩:=h;exact ⟨b,off,d,rfl,h1.mono hs,h2.mono hs⟩
 | .unit,_,_,h=>h
 | .fnc,_,_,h=>h
structure Bk where
 b:Nat
 o:Nat
 sz:Nat
 N:Nat
 L:Nat
abbrev yN:=List (Option Bk)
def z1z (v:Value):Prop:= ∀ cs,v≠.agg cs
def y7 (I:Sig) (M:yN):AS->Value->Prop
 | .int k n,v=>v= .int k n/\InK k n
 | .bool b,v=>v= .bool b
 | .val u,v=>v=u/\z1z u
 | .sl e xs,v=>jI I (.sl e) xs [v]
 | .mp k u m,v=>jI I (.mp k u) m [v]
 | .pt e o,v=>jI I (.pt e) o [v]
 | .ip e x k,v=> ∃ b o d,v= .pointer (some ⟨b,o+k,none⟩)/\jI I e x d/\zCJ I b o d
 | .ipi e x j,v=> ∃ b o d,v= .pointer (some ⟨b,o+j,none⟩)/\jI I e x d/\zCJ I b o d/\j<e.size
 | .own id s n,v=>match M[id]? with
   | none=>False
   | some none=>(∃ a,v= .slice a 0 0)/\s=0/\n=0
   | some (some p)=> ∃ a cap,v= .slice (some a) n cap/\n<=cap/\(cap=0\/a=⟨p.b,p.o+s*p.sz,none⟩)/\p.o+(s+cap)*p.sz<=p.N/\s+n<=p.L
 | .ptr id i k,v=> ∃ p,M[id]? =some (some p)/\v= .pointer (some ⟨p.b,p.o+i*p.sz+k,none⟩)/\i<p.L
 | .pti id i j,v=> ∃ p,M[id]? =some (some p)/\v= .pointer (some ⟨p.b,p.o+i*p.sz+j,none⟩)/\i<p.L/\j<p.sz
 | .omp id,v=> ∃ p,M[id]? =some (some p)/\v= .map (some p.b)/\p.o=0
 | .arr id n,v=> ∃ p,M[id]? =some (some p)/\v= .slice (some ⟨p.b,p.o,none⟩) n n/\n<=p.sz/\0<p.L
 | .clo f ps,v=> ∃ vs:List Value,v= .func (.func f) #[] vs.toArray/\jZ (fun (q:PtV) u=>jI I (.pt q.e) (some q.x) [u]) ps vs
 | .nq neg e xs,v=> ∃ b:Bool,v= .bool (Bool.xor neg b)/\(b=true->xs=[])
 | .emp _,v=> ∃ a,v= .slice a 0 0
 | .junk,_=>True
theorem y7.mono {I τ:Sig} (hs:I.le τ) {M:yN} {a:AS} {v:Value} (h:y7 I M a v):y7 τ M a v:=by
 cases a with
 | int=>exact h
 | bool=>exact h
 | val=>exact h
 | sl=>exact jI.mono hs h
 | mp=>exact jI.mono hs h
 | pt=>exact jI.mono hs h
 | ip=>obtain ⟨b,o,d,e,h1,h2⟩:=h;exact ⟨b,o,d,e,h1.mono hs,h2.mono hs⟩
 | ipi=>obtain ⟨b,o,d,e,h1,h2,h3⟩:=h;exact ⟨b,o,d,e,h1.mono hs,h2.mono hs,h3⟩
 | own=>exact h
 | ptr=>exact h
 | pti=>exact h
 | omp=>exact h
 | arr=>exact h
 | clo f ps=>obtain ⟨vs,e,r⟩:=h;exact ⟨vs,e,r.mono fun _ _=>jI.mono hs⟩
 | nq=>exact h
 | emp=>exact h
 | junk=>exact h
theorem y7.more {I:Sig} {M:yN} {a:AS} {v:Value} (p:Option Bk) (h:y7 I M a v):y7 I (M++[p]) a v:=by
 have key: ∀ {id:Nat} {q:Option Bk},M[id]? =some q->(M++[p])[id]? =some q:=fun {id q} e=>by
  rw [yF];exact e;exact (zG.1 e).1
 cases a with
 | own id s n =>
   simp only [y7] at h ⊢;cases e:M[id]? with
   | none=>simp [e] at h
   | some q=>rw [key e];rw [e] at h;exact h
 | ptr=>obtain ⟨q,e,r⟩:=h;exact ⟨q,key e,r⟩
 | pti=>obtain ⟨q,e,r⟩:=h;exact ⟨q,key e,r⟩
 | omp=>obtain ⟨q,e,r⟩:=h;exact ⟨q,key e,r⟩
 | arr=>obtain ⟨q,e,r⟩:=h;exact ⟨q,key e,r⟩
 | _=>exact h
mutual
def qA (I:Sig) (M:yN):AV->Value->Prop
 | .s a,v=>y7 I M a v
 | .agg l,v=> ∃ ds:List Value,v= .agg ds.toArray/\jZ (y7 I M) l ds
 | .tup l,v=> ∃ vs:List Value,v= .tuple vs.toArray/\jL I M l vs
def jL (I:Sig) (M:yN):List AV->List Value->Prop
 | [],[]=>True
 | a::l,v::m=>qA I M a v/\jL I M l m
 | _,_=>False
end
theorem zCV {I:Sig} {M:yN} : ∀ {l:List AV} {m:List Value},jL I M l m↔jZ (qA I M) l m
 | [],[]=>Iff.rfl
 | _::_,_::_=>by simp only [jL,jZ,zCV]
 | [],_::_=>Iff.rfl
 | _::_,[]=>Iff.rfl
mutual
theorem qA.map {I τ:Sig} {M γ:yN} (f: ∀ a v,y7 I M a v->y7 τ γ a v): ∀ {a:AV} {v:Value},qA I M a v->qA τ γ a v
 | .s _,_,h=>f _ _ h
 | .agg _,_,h=>let ⟨ds,e,r⟩:=h;⟨ds,e,r.mono f⟩
 | .tup _,_,h=>let ⟨vs,e,r⟩:=h;⟨vs,e,jL.map f r⟩
theorem jL.map {I τ:Sig} {M γ:yN} (f: ∀ a v,y7 I M a v->y7 τ γ a v): ∀ {l:List AV} {m:List Value},jL I M l m->jL τ γ l m
 | [],[],_=>trivial
 | _::_,_::_,h=>⟨qA.map f h.1,jL.map f h.2⟩
 | [],_::_,h=>h.elim
 | _::_,[],h=>h.elim
end
theorem qA.mono {I τ:Sig} (hs:I.le τ) {M:yN} {a:AV} {v:Value} (h:qA I M a v):qA τ M a v:=h.map fun _ _=>y7.mono hs
theorem qA.more {I:Sig} {M:yN} (p:Option Bk) {a:AV} {v:Value} (h:qA I M a v):qA I (M++[p]) a v:=h.map fun _ _=>y7.more p
theorem jI.cells {I:Sig} {M:yN} : ∀ {e:ETy} {x:e.T} {ds:List Value},jI I e x ds->jZ (y7 I M) (e.cells x) ds
 | .int _,_,_,h=>by obtain ⟨rfl,h⟩:=h;exact ⟨⟨rfl,h⟩,trivial⟩
 | .bool,_,_,h=>by rw [show _=_ from h];exact ⟨rfl,trivial⟩
 | .arr2,_,_,h=>by obtain ⟨rfl,h1,h2⟩:=h;exact ⟨⟨rfl,h1⟩,⟨rfl,h2⟩,trivial⟩
 | .arr3,_,_,h=>by obtain ⟨rfl,h1,h2,h3⟩:=h;exact ⟨⟨rfl,h1⟩,⟨rfl,h2⟩,⟨rfl,h3⟩,trivial⟩
 | .pair _ _,_,_,h=>by obtain ⟨d1,d2,rfl,h1,h2⟩:=h;exact h1.cells.append h2.cells
 | .sl _,_,_,h=>by obtain ⟨a,cap,rfl,hh⟩:=h;exact ⟨⟨a,cap,rfl,hh⟩,trivial⟩
 | .mp _ _,_,_,h=>by obtain ⟨r,rfl,hh⟩:=h;exact ⟨⟨r,rfl,hh⟩,trivial⟩
 | .pt _,none,_,h=>by rw [show _=_ from h];exact ⟨rfl,trivial⟩
 | .pt _,some _,_,h=>by obtain ⟨b,off,d,rfl,hh⟩:=h;exact ⟨⟨b,off,d,rfl,hh⟩,trivial⟩
 | .unit,_,_,h=>by rw [show _=_ from h];exact trivial
 | .fnc,o,_,h=>by rw [show _=_ from h];exact ⟨⟨rfl,fun cs e=>by cases o<;>cases e⟩,trivial⟩
theorem jZ.len_one {α M:Type} {R:α->M->Prop} {a:α} {m:List M} (h:jZ R [a] m): ∃ b,m=[b]/\R a b:=by
 match m,h with
 | [b],h=>exact ⟨b,rfl,h.1⟩
theorem jZ.len_nil {α M:Type} {R:α->M->Prop} {m:List M} (h:jZ R [] m):m=[]:=by
 match m,h with
 | [],_=>rfl
section
variable {I:Sig} {M:yN} {ds:List Value}
theorem zMc {k:IntKind} {l:List AS} {x:Int} (h:zUE k l=some x) (hr:jZ (y7 I M) l ds):jI I (.int k) x ds:=by
 unfold zUE at h;split at h
 ·split at h
  ·rename_i hk;subst hk;cases h;obtain ⟨b,rfl,hb⟩:=hr.len_one;exact ⟨by rw [hb.1],hb.2⟩
  ·contradiction
 ·contradiction
theorem zL4 {l:List AS} {x:Bool} (h:zN2 l=some x) (hr:jZ (y7 I M) l ds):jI I .bool x ds:=by
 unfold zN2 at h;split at h
 ·cases h;obtain ⟨b,rfl,hb⟩:=hr.len_one;show _=_;rw [show _=_ from hb]
 ·contradiction
theorem zQX {l:List AS} {x:Int×Int} (h:z2q l=some x) (hr:jZ (y7 I M) l ds):jI I .arr2 x ds:=by
 unfold z2q at h;split at h
 ·cases h
  match ds,hr with
  | [a,b],⟨h1,h2,_⟩=>exact ⟨by rw [h1.1,h2.1],h1.2,h2.2⟩
 ·contradiction
theorem zQp {l:List AS} {x:Int×Int×Int} (h:z20 l=some x) (hr:jZ (y7 I M) l ds):jI I .arr3 x ds:=by
 unfold z20 at h;split at h
 ·cases h
  match ds,hr with
  | [a,b,c],⟨h1,h2,h3,_⟩=>exact ⟨by rw [h1.1,h2.1,h3.1],h1.2,h2.2,h3.2⟩
 ·contradiction
theorem zOf {e:ETy} {l:List AS} {x:List e.T} (h:zZp e l=some x) (hr:jZ (y7 I M) l ds):jI I (.sl e) x ds:=by
 unfold zZp at h;split at h
 ·split at h
  ·rename_i hk;subst hk;cases h;obtain ⟨b,rfl,hb⟩:=hr.len_one;exact hb
  ·contradiction
 ·cases h;obtain ⟨b,rfl,hb⟩:=hr.len_one;obtain ⟨rfl,_⟩:=hb;exact ⟨none,0,rfl,by simp,by simp,fun h=>(h rfl).elim⟩
 ·split at h
  ·cases h;obtain ⟨b,rfl,a,rfl⟩:=hr.len_one;exact ⟨a,0,rfl,by simp,by simp,fun h=>(h rfl).elim⟩
  ·contradiction
 ·contradiction
theorem zNm {k v:ETy} {l:List AS} {x:List (k.T×v.T)} (h:zYp k v l=some x) (hr:jZ (y7 I M) l ds):jI I (.mp k v) x ds:=by
 unfold zYp at h;split at h
 ·split at h
  ·split at h
   ·rename_i hk hk';subst hk;subst hk';cases h;obtain ⟨b,rfl,hb⟩:=hr.len_one;exact hb
   ·contradiction
  ·contradiction
 ·contradiction
theorem zNl {e:ETy} {l:List AS} {x:Option e.T} (h:zYC e l=some x) (hr:jZ (y7 I M) l ds):jI I (.pt e) x ds:=by
 unfold zYC at h;split at h
 ·split at h
  ·rename_i hk;subst hk;cases h;obtain ⟨b,rfl,hb⟩:=hr.len_one;exact hb
  ·contradiction
 ·cases h;obtain ⟨b,rfl,hb⟩:=hr.len_one;obtain ⟨rfl,_⟩:=hb;rfl
 ·contradiction
theorem zK9 {l:List AS} {x:Unit} (h:zNp l=some x) (hr:jZ (y7 I M) l ds):jI I .unit x ds:=by
 unfold zNp at h;split at h
 ·exact hr.len_nil
 ·contradiction
end
theorem zLz {I:Sig} {M:yN} {l:List AS} {x:Option Nat} {ds:List Value} (h:zR9 l=some x) (hr:jZ (y7 I M) l ds):jI I .fnc x ds:=by
 unfold zR9 at h;split at h
 ·cases h
  match ds,hr with
  | [d],⟨⟨e,_⟩,_⟩=>subst e;rfl
 ·cases h
  match ds,hr with
  | [d],⟨⟨e,_⟩,_⟩=>subst e;rfl
 ·cases h
theorem ETy.dec_sound {I:Sig} {M:yN} : ∀ {e:ETy} {l:List AS} {x:e.T} {ds:List Value},e.dec l=some x->jZ (y7 I M) l ds->jI I e x ds
 | .int _,_,_,_,h,hr=>zMc h hr
 | .bool,_,_,_,h,hr=>zL4 h hr
 | .arr2,_,_,_,h,hr=>zQX h hr
 | .arr3,_,_,_,h,hr=>zQp h hr
 | .pair a b,l,x,ds,h,hr=>by
   unfold ETy.dec at h;split at h
   ·rename_i x1 x2 h1 h2;cases h;exact ⟨ds.take a.size,ds.drop a.size,by simp,ETy.dec_sound h1 (hr.take _),ETy.dec_sound h2 (hr.drop _)⟩
   ·contradiction
 | .sl _,_,_,_,h,hr=>zOf h hr
 | .mp _ _,_,_,_,h,hr=>zNm h hr
 | .pt _,_,_,_,h,hr=>zNl h hr
 | .unit,_,_,_,h,hr=>zK9 h hr
 | .fnc,_,_,_,h,hr=>zLz h hr
theorem zRP {I:Sig} {M:yN} {v:Value} (h:z1z v) (hk: ∀ k n,v= .int k n->InK k n):y7 I M (AS.ofVal v) v:=by
 cases v<;>simp only [AS.ofVal]<;>first|exact ⟨rfl,hk _ _ rfl⟩|exact rfl|exact ⟨rfl,h⟩
end Go.Vm
namespace Go.Vm
open Go.RowKit
theorem InK.i64 {n:Int} :InK .i64 n↔zAL n:=by
 unfold InK zAL;rw [IntKind.wrap_i64];omega
theorem InK.u64 {n:Int} (h:InK .u64 n):0<=n/\n<=18446744073709551615:=by
 unfold InK at h;rw [IntKind.wrap_u64] at h;omega
theorem InK.u8 {n:Int} (h:InK .u8 n):0<=n/\n<=255:=by
 unfold InK at h;rw [IntKind.wrap_u8] at h;omega
theorem InK.wrap (k:IntKind) (n:Int):InK k (k.wrap n):=by
 unfold InK IntKind.wrap;cases k<;>simp only [IntKind.bits,IntKind.signed]<;>simp<;>split<;>(try split)<;>omega
def Opt:Option Prop->Prop
 | none=>True
 | some p=>p
def Snd (P:Program) (I:Sig) (M:yN) (w:World) (r:Option Res) (s:Sem Value):Prop :=
 ∀ p q v,r=some (p,q,v)->Opt p/\(Opt q->∃ val,s.run P w= .ok val w/\qA I M v val)
structure zNT (P:Program) (t:TypeId) (ti:TI):Prop where
 und:P.underlying t=some ti.desc
 info:(P.info? t).map (fun i=>(i.size,i.bytes,i.zero.map fun z=>z.cells.toList))=some (ti.size,ti.bytes,some ti.zl)
 zok:ti.zl.all zGm=true
 zlen:ti.zl.length=ti.size
 stood : ∀ fs, ti.desc = .struct fs → P.stoodInHeld t = false ∧ ∀ f ∈ fs.toList, f.name ≠ "_"
section
variable {P:Program} {I:Sig} {M:yN} {w:World}
theorem Snd.none {s:Sem Value} :Snd P I M w none s:=fun _ _ _ h=>by cases h
theorem Snd.ok {a:AS} {s:Sem Value} (h: ∃ val,s.run P w= .ok val w/\y7 I M a val):Snd P I M w (Vm.ok a) s:=by
 intro p q v e;simp only [Vm.ok,zAV,zB1] at e;obtain ⟨rfl,rfl,rfl⟩:=e;exact ⟨trivial,fun _=>h⟩
theorem Snd.pure {v:AV} {s:Sem Value} (h: ∃ val,s.run P w= .ok val w/\qA I M v val):Snd P I M w (some (Option.none,Option.none,v)) s:=by
 intro p q v' e;simp only [zAV,zB1] at e;obtain ⟨rfl,rfl,rfl⟩:=e;exact ⟨trivial,fun _=>h⟩
theorem Snd.need {q:Prop} {a:AS} {s:Sem Value} (h:q->∃ val,s.run P w= .ok val w/\y7 I M a val):Snd P I M w (Vm.need q a) s:=by
 intro p q' v e;simp only [Vm.need,zAV,zB1] at e;obtain ⟨rfl,rfl,rfl⟩:=e;exact ⟨trivial,h⟩
theorem Snd.mk {p q:Option Prop} {v:AV} {s:Sem Value} (hp:Opt p) (h:Opt q->∃ val,s.run P w= .ok val w/\qA I M v val):Snd P I M w (some (p,q,v)) s:=by
 intro p' q' v' e;simp only [zAV,zB1] at e;obtain ⟨rfl,rfl,rfl⟩:=e;exact ⟨hp,h⟩
theorem Snd.fitting {a b:Nat} {v:AV} {s:Sem Value} (h:a<=b->∃ val,s.run P w= .ok val w/\qA I M v val):Snd P I M w (Vm.fitting a b v) s:=by
 unfold Vm.fitting;split
 ·rename_i hb;exact Snd.pure (h (zU hb))
 ·exact Snd.none
theorem zNT.run_underlying {t:TypeId} {ti:TI} (h:zNT P t ti):(underlying t).run P w= .ok ti.desc w:=Go.run_underlying h.und w
theorem zNT.get {t:TypeId} {ti:TI} (h:zNT P t ti): ∃ i z,P.info? t=some i/\i.size=ti.size/\i.bytes=ti.bytes/\i.zero=some z/\z.cells.toList=ti.zl:=by
 have:=h.info;cases hi:P.info? t with
 | none=>simp [hi] at this
 | some i =>
   simp only [hi,Option.map_some,zAV,zB1] at this;obtain ⟨h1,h2,h3⟩:=this;cases hz:i.zero with
   | none=>simp [hz] at h3
   | some z=>exact ⟨i,z,rfl,h1,h2,hz,by simpa [hz] using h3⟩
theorem zIp {v:Value} (h:zGm v=true):z1z v/\∀ k n,v= .int k n->InK k n:=by
 refine ⟨fun cs e=>by subst e;simp [zGm] at h,fun k n e=>by subst e;unfold InK;simpa [zGm] using h⟩
theorem zEk: ∀ {l:List Value},l.all zGm=true->jZ (y7 I M) (l.map AS.ofVal) l
 | [],_=>trivial
 | v::l,h=>by
   simp only [qS,zA] at h;obtain ⟨h1,h2⟩:=zIp h.1;exact ⟨zRP h1 h2,zEk h.2⟩
theorem zNT.run_sizeOf {t:TypeId} {ti:TI} (h:zNT P t ti):(sizeOf t).run P w= .ok ti.size w:=by
 obtain ⟨i,z,hi,hs,_⟩:=h.get;simp [sizeOf,typeInfo,hi,hs]
theorem zNT.run_isAgg {t:TypeId} {ti:TI} (h:zNT P t ti):(isAgg t).run P w= .ok (zA6 ti.desc) w:=by
 unfold isAgg;rw [zN,h.run_underlying];simp only [zL];cases ti.desc<;>rfl
theorem zCi {k:IntKind} {n:Int} {s:Sem Value} (h:s.run P w= .ok (.int k (k.wrap n)) w):Snd P I M w (some (arith k n)) s:=by
 unfold arith;cases k
 case i64=>exact Snd.mk trivial fun q=>⟨_,h,by rw [InK.i64.2 q],InK.i64.2 q⟩
 all_goals exact Snd.pure ⟨_,h,rfl,InK.wrap _ _⟩
theorem zYs {k:IntKind} {a b:Int} (ha:InK k a):InK k (a.tmod b):=by
 have h1:(a.tmod b).natAbs<=a.natAbs:=by
  rw [Int.natAbs_tmod];exact Nat.mod_le _ _
 have h2:0<=a->0<=a.tmod b:=fun h=>Int.tmod_nonneg _ h
 have h3:a<=0->a.tmod b<=0:=fun h=>by
  have:0<=(-a).tmod b:=Int.tmod_nonneg _ (by omega);rw [Int.neg_tmod] at this;omega
 unfold InK IntKind.wrap at *;generalize a.tmod b=m at *;cases k<;>simp only [IntKind.bits,IntKind.signed] at* <;>simp at* <;>(try split at ha)<;>(try split)<;>omega
theorem zMp {t:TypeId} {op:BinOp} {k:IntKind} {a b:Int} (ha:InK k a):Snd P I M w (zUT op k a b) (binOp op t (.int k a) (.int k b)):=by
 unfold zUT;cases op
 case add=>exact zCi (by simp [binOp,Op.intArith])
 case sub=>exact zCi (by simp [binOp,Op.intArith])
 case mul=>exact zCi (by simp [binOp,Op.intArith])
 case quo =>
  by_cases hb:b=0
  ·intro p q v e;refine ⟨?_,fun hq=> ?_⟩
   all_goals (unfold arith at e;cases k<;>simp at e<;>obtain ⟨rfl,rfl,rfl⟩:=e<;>first|exact trivial|exact (hq.1 hb).elim|exact (hq hb).elim)
  ·have hs:(binOp .quo t (.int k a) (.int k b)).run P w= .ok (.int k (k.wrap (a.tdiv b))) w:=by simp [binOp,Op.intDiv,hb]
   have:=zCi (I:=I) (M:=M) hs;intro p q v e;unfold arith at this e;cases k<;>simp at e<;>obtain ⟨rfl,rfl,rfl⟩:=e
   case i64=>exact ⟨trivial,fun hq=>(this _ _ _ rfl).2 hq.2⟩
   all_goals exact ⟨trivial,fun _=>(this _ _ _ rfl).2 trivial⟩
 case rem=>exact Snd.mk trivial fun hb=>⟨_,by simp only [Opt] at hb;simp [binOp,Op.intDiv,hb],rfl,zYs ha⟩
 case eql=>exact Snd.ok ⟨_,by simp [binOp,Op.intCmp],rfl⟩
 case neq=>exact Snd.ok ⟨_,by simp [binOp,Op.intCmp],rfl⟩
 case lss=>exact Snd.ok ⟨_,by simp [binOp,Op.intCmp],rfl⟩
 case leq=>exact Snd.ok ⟨_,by simp [binOp,Op.intCmp],rfl⟩
 case gtr=>exact Snd.ok ⟨_,by simp [binOp,Op.intCmp],rfl⟩
 case geq=>exact Snd.ok ⟨_,by simp [binOp,Op.intCmp],rfl⟩
 all_goals exact Snd.none
def zAZ (P:Program) (T:Tab):Prop:= ∀ t ti,zEt T.ty t=some ti->zNT P t ti
theorem zAZ.desc {T:Tab} (hT:zAZ P T) {t:TypeId} {d:TypeDesc} (h:T.desc t=d) (hd:d≠.invalid):(underlying t).run P w= .ok d w:=by
 unfold Tab.desc at h;cases e:zEt T.ty t with
 | none=>simp [e] at h;exact (hd h.symm).elim
 | some ti=>simp only [e] at h;rw [(hT t ti e).run_underlying,h]
theorem zAZ.und {T:Tab} (hT:zAZ P T) {t:TypeId} {d:TypeDesc} (h:T.desc t=d) (hd:d≠.invalid):P.underlying t=some d:=by
 unfold Tab.desc at h;cases e:zEt T.ty t with
 | none=>simp [e] at h;exact (hd h.symm).elim
 | some ti=>simp only [e] at h;rw [(hT t ti e).und,h]
theorem zAZ.size {T:Tab} (hT:zAZ P T) {t:TypeId} {d:TypeDesc} (h:T.desc t=d) (hd:d≠.invalid):(sizeOf t).run P w= .ok (T.sizeOf t) w:=by
 unfold Tab.desc at h;unfold Tab.sizeOf;cases e:zEt T.ty t with
 | none=>simp [e] at h;exact (hd h.symm).elim
 | some ti=>exact (hT t ti e).run_sizeOf
theorem zNT.cells {t:TypeId} {ti:TI} (h:zNT P t ti):P.cellsOf t=ti.size:=by
 obtain ⟨i,_,hi,hs,_⟩:=h.get;simp [Program.cellsOf,hi,hs]
theorem zAZ.cells {T:Tab} (hT:zAZ P T) {t:TypeId} {d:TypeDesc} (h:T.desc t=d) (hd:d≠.invalid):P.cellsOf t=T.sizeOf t:=by
 unfold Tab.desc at h;unfold Tab.sizeOf;cases e:zEt T.ty t with
 | none=>simp [e] at h;exact (hd h.symm).elim
 | some ti=>exact (hT t ti e).cells
theorem zNc {op:BinOp} {r:Bool} {s:BinOp->Sem Value} (h1:(s .eql).run P w= .ok (.bool r) w) (h2:(s .neq).run P w= .ok (.bool (!r)) w):Snd P I M w (zGU op r) (s op):=by
 unfold zGU;cases op
 case eql=>exact Snd.ok ⟨_,h1,rfl⟩
 case neq=>exact Snd.ok ⟨_,h2,rfl⟩
 all_goals exact Snd.none
theorem zCW: ∃ d,∀ t x y,Op.equal t x y=Op.equalIn (d+2) t x y:=⟨9998,fun _ _ _=>rfl⟩
theorem zEH {t u:TypeId} (h:(underlying t).run P w= .ok (.pointer u) w) (a:Option Addr):(Op.equal t (.pointer a) (.pointer none)).run P w= .ok a.isNone w:=by
 obtain ⟨d,hd⟩:=zCW;rw [hd];simp only [Op.equalIn,zN,h,zL];cases a<;>rfl
theorem zNG {t k u:TypeId} (h:(underlying t).run P w= .ok (.map k u) w) (a:Option Nat):(Op.equal t (.map a) (.map none)).run P w= .ok a.isNone w:=by
 obtain ⟨d,hd⟩:=zCW;rw [hd];simp only [Op.equalIn,zN,h,zL];cases a<;>rfl
theorem zQ8 {t:TypeId} (h:(underlying t).run P w= .ok .bool w) (a b:Bool):(Op.equal t (.bool a) (.bool b)).run P w= .ok (a==b) w:=by
 obtain ⟨d,hd⟩:=zCW;rw [hd];simp only [Op.equalIn,zN,h,zL];rfl
theorem zBf {op:BinOp} {t:TypeId} {x y:Value} {r:Bool} (h:(Op.equal t x y).run P w= .ok r w)
 (h1:binOp .eql t x y=(do pure (.bool (<- Op.equal t x y)))) (h2:binOp .neq t x y=(do pure (.bool (!(<- Op.equal t x y))))):Snd P I M w (zGU op r) (binOp op t x y):=by
 refine zNc (s:=fun op=>binOp op t x y) ?_ ?_
 ·show (binOp .eql t x y).run P w=_;rw [h1,zN,h];rfl
 ·show (binOp .neq t x y).run P w=_;rw [h2,zN,h];rfl
theorem jK {op:BinOp} {t:TypeId} {x y:Operand} {a b:Value} (h: ∀ cs,a≠.agg cs) (h':a≠.nilIface):(eqGuard op t x y a b).run P w= .ok () w:=by
 cases op<;>simp only [eqGuard]<;>first|rfl|skip
 all_goals (cases a<;>first|rfl|exact (h _ rfl).elim|exact (h' rfl).elim)
theorem Snd.guarded {r:Option Res} {g:Sem Unit} {s:Sem Value} (hg:g.run P w= .ok () w) (hs:Snd P I M w r s):Snd P I M w r (do g;s):=by
 intro p q v e;obtain ⟨h1,h2⟩:=hs p q v e;exact ⟨h1,fun hq=>let ⟨val,e1,e2⟩:=h2 hq;⟨val,by rw [zN,hg];exact e1,e2⟩⟩
theorem zD3 {t u:TypeId} (h:(underlying t).run P w= .ok (.slice u) w) (a:Option Addr) (n c:Nat):(Op.equal t (.slice a n c) (.slice none 0 0)).run P w= .ok a.isNone w:=by
 obtain ⟨d,hd⟩:=zCW;rw [hd];simp only [Op.equalIn,zN,h,zL];cases a<;>rfl
theorem zLN {op:BinOp} {t:TypeId} {x y:Value} {e:ETy} {xs:List e.T} {r:Bool} (h:(Op.equal t x y).run P w= .ok r w) (hr:r=true->xs=[])
 (h1:binOp .eql t x y=(do pure (.bool (<- Op.equal t x y)))) (h2:binOp .neq t x y=(do pure (.bool (!(<- Op.equal t x y))))):Snd P I M w (zWy op e xs) (binOp op t x y):=by
 unfold zWy;split
 ·refine Snd.ok ⟨.bool r,?_,r,by simp,hr⟩;rw [h1,zN,h];rfl
 ·refine Snd.ok ⟨.bool (!r),?_,r,by simp,hr⟩;rw [h2,zN,h];rfl
 ·exact Snd.none
theorem zLv {T:Tab} (hT:zAZ P T) {t:TypeId} {op:BinOp} {a b:AS} {x y:Value} {ox oy:Operand} (hx:y7 I M a x) (hy:y7 I M b y) :
 Snd P I M w (zT0 op (T.desc t) a b) (do eqGuard op t ox oy x y;binOp op t x y):=by
 unfold zT0;split
 ·rename_i e o hd;obtain ⟨rfl,_⟩:=hy;have hu:=hT.desc (w:=w) hd (by simp);cases o with
  | none=>obtain rfl:=(List.cons.inj (show _=_ from hx)).1;exact Snd.guarded (jK (by simp) (by simp)) (zBf (zEH hu _) rfl rfl)
  | some z=>obtain ⟨b,off,d,e1,_⟩:=hx;obtain rfl:=(List.cons.inj e1).1;exact Snd.guarded (jK (by simp) (by simp)) (zBf (zEH hu _) rfl rfl)
 ·rename_i hd;obtain ⟨rfl,_⟩:=hy;obtain ⟨rfl,_⟩:=hx;exact Snd.guarded (jK (by simp) (by simp)) (zBf (zEH (hT.desc (w:=w) hd (by simp)) _) rfl rfl)
 ·rename_i hd;obtain ⟨rfl,_⟩:=hy;obtain ⟨b,o,d,rfl,_⟩:=hx;exact Snd.guarded (jK (by simp) (by simp)) (zBf (zEH (hT.desc (w:=w) hd (by simp)) _) rfl rfl)
 ·rename_i hd;obtain ⟨rfl,_⟩:=hy;obtain ⟨p,_,rfl,_⟩:=hx;exact Snd.guarded (jK (by simp) (by simp)) (zBf (zEH (hT.desc (w:=w) hd (by simp)) _) rfl rfl)
 ·rename_i hd;obtain ⟨rfl,_⟩:=hy;obtain ⟨p,_,rfl,_⟩:=hx;exact Snd.guarded (jK (by simp) (by simp)) (zBf (zNG (hT.desc (w:=w) hd (by simp)) _) rfl rfl)
 ·rename_i hd;obtain ⟨rfl,_⟩:=hy;obtain ⟨rfl,_⟩:=hx;exact Snd.guarded (jK (by simp) (by simp)) (zBf (zNG (hT.desc (w:=w) hd (by simp)) _) rfl rfl)
 ·rename_i e xs hd;obtain ⟨rfl,_⟩:=hy;obtain ⟨a,cap,e1,_,_,h3⟩:=hx;obtain rfl:=(List.cons.inj e1).1;refine Snd.guarded (jK (by simp) (by simp)) (zLN (zD3 (hT.desc (w:=w) hd (by simp)) _ _ _) (fun hr=> ?_) rfl rfl)
  by_cases hne:xs=[]
  ·exact hne
  ·obtain ⟨b,o,rfl,_⟩:=h3 hne;cases hr
 ·rename_i id s n hd;obtain ⟨rfl,_⟩:=hy;simp only [y7] at hx;split at hx
  ·exact hx.elim
  ·obtain ⟨⟨_,rfl⟩,_,rfl⟩:=hx;exact Snd.guarded (jK (by simp) (by simp)) (zLN (zD3 (hT.desc (w:=w) hd (by simp)) _ _ _) (fun _=>rfl) rfl rfl)
  ·obtain ⟨a,cap,rfl,_⟩:=hx;exact Snd.guarded (jK (by simp) (by simp)) (zLN (zD3 (hT.desc (w:=w) hd (by simp)) _ _ _) (fun hr=>by cases hr) rfl rfl)
 ·rename_i hd;obtain ⟨rfl,_⟩:=hy;obtain ⟨rfl,_⟩:=hx;exact Snd.guarded (jK (by simp) (by simp)) (zBf (zD3 (hT.desc (w:=w) hd (by simp)) _ _ _) rfl rfl)
 ·exact Snd.none
theorem zDp: ∀ {l m:List AS} {ds es:List Value} {r:Bool},zIh l m=some r->jZ (y7 I M) l ds->jZ (y7 I M) m es->
 ds.length=es.length/\(∀ (i:Nat) (x y:Value),ds[i]? =some x->es[i]? =some y->∃ k a b,x= .int k a/\y= .int k b)/\(r=true↔ds=es)
 | [],[],ds,es,r,h,h1,h2=>by
   cases h;obtain rfl:=h1.len_nil;obtain rfl:=h2.len_nil;simp
 | .int k a::l,.int k' b::m,d::ds,e::es,r,h,h1,h2=>by
   simp only [zIh] at h;split at h
   ·rename_i hk r' hd hr;cases h;subst hk;obtain ⟨i1,i2,i3⟩:=zDp hr h1.2 h2.2;obtain ⟨⟨rfl,_⟩,⟨rfl,_⟩⟩:=yH h1.1 h2.1;refine ⟨by simp [i1],?_,?_⟩
    ·intro i x y hx hy;cases i with
     | zero=>simp at hx hy;exact ⟨k,a,b,hx.symm,hy.symm⟩
     | succ i=>exact i2 i x y (by simpa using hx) (by simpa using hy)
    ·simp [i3]
   ·contradiction
 | .int _ _::_,.int _ _::_,[],_,_,_,h1,_=>h1.elim
 | .int _ _::_,.int _ _::_,_::_,[],_,_,_,h2=>h2.elim
theorem zCu {T:Tab} (hT:zAZ P T) {u:TypeId} {k:IntKind} (hu:T.desc u= .int k) {xs:List Value} {i:Nat} {x:Value} (hx:xs[i]? =some x) :
 (Go.part u xs.toArray i).run P w= .ok x w:=by
 unfold Go.part
 have h1:(isAgg u).run P w= .ok false w:=by
  unfold isAgg;rw [zN,hT.desc hu (by simp)];rfl
 simp [h1,hx]
theorem zGo {T:Tab} (hT:zAZ P T) {u:TypeId} {k:IntKind} (hu:T.desc u= .int k) (d:Nat) {ds es:List Value}
 (h: ∀ (i:Nat) (x y:Value),ds[i]? =some x->es[i]? =some y->∃ k a b,x= .int k a/\y= .int k b) :
 ∀ is:List Nat,(∀ i∈is,i<ds.length/\i<es.length)->∃ r,(Op.eqItems (d+1) u 1 ds.toArray es.toArray is).run P w= .ok r w/\(r=true↔∀ i∈is,ds[i]? =es[i]?)
 | [],_=>⟨true,by simp [Op.eqItems],by simp⟩
 | i ::is,hi=>by
   obtain ⟨r,hr,hiff⟩:=zGo hT hu d h is (fun j hj=>hi j (by simp [hj]));obtain ⟨h1,h2⟩:=hi i (by simp);obtain ⟨x,hx⟩: ∃ x,ds[i]? =some x:=⟨_,zB h1⟩;obtain ⟨y,hy⟩: ∃ y,es[i]? =some y:=⟨_,zB h2⟩;obtain ⟨k',a,b,rfl,rfl⟩:=h i x y hx hy;have e1:=zCu (w:=w) hT hu hx;have e2:=zCu (w:=w) hT hu hy
   have e3:(Op.equalIn (d+1) u (.int k' a) (.int k' b)).run P w= .ok (a==b) w:=by
    simp only [Op.equalIn,zN,hT.desc (w:=w) hu (by simp),zL];simp
   simp only [Op.eqItems,Nat.mul_one,zN,e1,e2,e3,zL]
   by_cases hab:a=b
   ·subst hab;refine ⟨r,by simpa using hr,?_⟩;simp [hiff,hx,hy]
   ·refine ⟨false,by simp [hab],?_⟩;simp [hx,hy,hab]
theorem zLI {T:Tab} (hT:zAZ P T) {t u:TypeId} {n:Nat} {k:IntKind} (ht:T.desc t= .array n u) (hu:T.desc u= .int k) (op:BinOp) (x y:Operand) (xs ys:Array Value) :
 (eqGuard op t x y (.agg xs) (.agg ys)).run P w= .ok () w:=by
 have:P.eqGuardType P.depth t=false:=by
  unfold Program.depth;simp only [Program.eqGuardType,hT.und ht (by simp),hT.und hu (by simp)]
 cases op<;>simp [eqGuard,run_program,this]
theorem zHG {ds es:List Value} {n:Nat} (h1:ds.length=n) (h2:es.length=n):(∀ i∈List.range n,ds[i]? =es[i]?)↔ds=es:=by
 constructor
 ·intro h;apply List.ext_getElem?;intro i
  by_cases hi:i<n
  ·exact h i (by simpa using hi)
  ·rw [zBx (by omega),zBx (by omega)]
 ·rintro rfl _ _;rfl
theorem zFk {T:Tab} (hT:zAZ P T) (d:Nat) {ds es:List Value} (h: ∀ (i:Nat) (x y:Value),ds[i]? =some x->es[i]? =some y->∃ k a b,x= .int k a/\y= .int k b) (hl:ds.length=es.length) :
 ∀ (fs : List Field) (i : Nat), zCT T i fs = true → (∀ f ∈ fs, f.name ≠ "_") → i + fs.length = ds.length → ∃ r, (Op.eqFields (d + 1) ds.toArray es.toArray fs).run P w = .ok r w ∧ (r = true ↔ ds.drop i = es.drop i)
 | [],i,_,_,hi=>⟨true,by simp [Op.eqFields],by
     simp only [List.length_nil,zBX] at hi
     rw [jS (by omega),jS (by omega)];simp⟩
 | f ::fs,i,hc,hn,hi=>by
   simp only [zZ] at hi;simp only [zCT] at hc;split at hc
   case h_2=>cases hc
   rename_i k hu;simp only [zA] at hc;obtain ⟨⟨_,ho⟩,hc⟩:=hc;have ho:=zC ho;obtain ⟨r,hr,hiff⟩:=zFk hT d h hl fs (i+1) hc (fun g hg=>hn g (by simp [hg])) (by omega);have h1:i<ds.length:=by omega
   have h2:i<es.length:=by omega
   have hx:=zB h1;have hy:=zB h2;obtain ⟨k',a,b,ha,hb⟩:=h i _ _ hx hy;rw [ha] at hx;rw [hb] at hy;have e1:=zCu (w:=w) hT hu hx;have e2:=zCu (w:=w) hT hu hy
   have e3:(Op.equalIn (d+1) f.type (.int k' a) (.int k' b)).run P w= .ok (a==b) w:=by
    simp only [Op.equalIn,zN,hT.desc (w:=w) hu (by simp),zL];simp
   have hdx:ds.drop i= .int k' a::ds.drop (i+1):=by rw [List.drop_eq_getElem_cons h1,ha]
   have hdy:es.drop i= .int k' b::es.drop (i+1):=by rw [List.drop_eq_getElem_cons h2,hb]
   simp only [Op.eqFields,if_pos (hn f (by simp)),ho,zN,e1,e2,e3,zL];rw [hdx,hdy]
   by_cases hab:a=b
   ·subst hab;refine ⟨r,by simpa using hr,?_⟩;simp [hiff]
   ·refine ⟨false,by simp [hab],?_⟩;simp [hab]
theorem zDk {T:Tab} : ∀ {fs:List Field} {i:Nat},zCT T i fs=true->∀ f∈fs,∃ k,T.desc f.type= .int k
 | [],_,_,f,hf=>by cases hf
 | g::fs,i,h,f,hf=>by
   simp only [zCT] at h;split at h
   case h_2=>cases h
   rename_i k hu;simp only [zA] at h;rcases zP.1 hf with rfl|hf
   ·exact ⟨k,hu⟩
   ·exact zDk h.2 f hf
theorem zJM {T:Tab} (hT:zAZ P T) {t:TypeId} {fs:Array Field} (ht:T.desc t= .struct fs) (hu: ∀ f∈fs.toList,∃ k,T.desc f.type= .int k) (op:BinOp) (x y:Operand) (xs ys:Array Value) :
 (eqGuard op t x y (.agg xs) (.agg ys)).run P w= .ok () w:=by
 have:P.eqGuardType P.depth t=false:=by
  unfold Program.depth;simp only [Program.eqGuardType,hT.und ht (by simp)];rw [<- Array.any_toList,List.any_eq_false];intro f hf;obtain ⟨k,hk⟩:=hu f hf;simp [hT.und hk (by simp)]
 cases op<;>simp [eqGuard,run_program,this]
theorem zUH {T:Tab} (hT:zAZ P T) {t:TypeId} {op:BinOp} {a b:AV} {x y:Value} {ox oy:Operand} (hx:qA I M a x) (hy:qA I M b y) :
 Snd P I M w (bin T t op a b) (do eqGuard op t ox oy x y;binOp op t x y):=by
 unfold bin;split
 ·obtain ⟨rfl,ha⟩:=hx;obtain ⟨rfl,hb⟩:=hy;split
  ·rename_i hk _;subst hk;exact Snd.guarded (jK (by simp) (by simp)) (zMp ha)
  ·exact Snd.none
 ·obtain rfl:=hx;obtain rfl:=hy;split
  ·rename_i hd;exact Snd.guarded (jK (by simp) (by simp)) (zBf (zQ8 (hT.desc hd (by simp)) _ _) rfl rfl)
  ·exact Snd.none
 ·obtain ⟨ds,rfl,hds⟩:=hx;obtain ⟨es,rfl,hes⟩:=hy;split
  ·rename_i n u ht;split
   ·rename_i k r hu hs hn hr;obtain ⟨h1,h2,h3⟩:=zDp hr hds hes;have hn':ds.length=n:=by rw [<- hds.length];exact zC hn
    obtain ⟨d,hd⟩:=zCW
    obtain ⟨i,hi⟩: ∃ i,P.info? u=some i:=by
     unfold Tab.desc at hu;cases e:zEt T.ty u with
     | none=>simp [e] at hu
     | some ti=>obtain ⟨i,_,hi,_⟩:=(hT u ti e).get;exact ⟨i,hi⟩
    have hsz:P.cellsOf u=1:=by rw [hT.cells hu (by simp)];exact zC hs
    obtain ⟨r',hr',hiff⟩:=zGo (w:=w) hT hu d h2 (List.range n) (fun i hi=>by simp at hi;omega)
    have e1:(Op.equal t (.agg ds.toArray) (.agg es.toArray)).run P w= .ok r w:=by
     rw [hd,run_equalIn_array w (d+1) _ _ (hT.und ht (by simp)) hi,hsz,hr']
     congr 1
     rw [Bool.eq_iff_iff,hiff,h3,zHG hn' (by omega)]
    exact Snd.guarded (zLI hT ht hu op _ _ _ _) (zBf e1 rfl rfl)
   ·exact Snd.none
  ·rename_i fs ht;split
   ·rename_i r hs hn hr;obtain ⟨h1,h2,h3⟩:=zDp hr hds hes;have hn':ds.length=fs.toList.length:=by rw [<- hds.length];exact zC hn
    obtain ⟨d,hd⟩:=zCW
    have hst : P.stoodInHeld t = false ∧ ∀ f ∈ fs.toList, f.name ≠ "_" := by
     unfold Tab.desc at ht;cases e:zEt T.ty t with
     | none=>simp [e] at ht
     | some ti=>simp only [e] at ht;exact (hT t ti e).stood fs ht
    have hund:=hT.und ht (by simp);have hfo:P.fieldsOf t=fs:=by unfold Program.fieldsOf;rw [hund]
    obtain ⟨r',hr',hiff⟩:=zFk (w:=w) hT d h2 h1 fs.toList 0 hs hst.2 (by omega)
    have e1:(Op.equal t (.agg ds.toArray) (.agg es.toArray)).run P w= .ok r w:=by
     rw [hd,run_equalIn_struct w (d+1) t _ _ (by rw [hfo];exact hund) hst.1,hfo,hr']
     congr 1
     rw [Bool.eq_iff_iff,hiff,h3,j5,j5]
    exact Snd.guarded (zJM hT ht (zDk hs) op _ _ _ _) (zBf e1 rfl rfl)
   ·exact Snd.none
  ·exact Snd.none
 ·exact zLv hT hx hy
 ·exact Snd.none
end
end Go.Vm
namespace Go.Vm
open Go.RowKit
def zDs (I:Sig) (w:World) (base sz:Nat) (v:Value):Prop :=
 v= .slice none 0 0\/∃ b o n cap c c' T,v= .slice (some ⟨b,o,none⟩) n cap/\I b=some (.cells c T (0,0))/\w.heap[b]? =some (.cells c' T (0,0))/\c.size=o+n*sz/\n<=cap/\o+cap*sz<=c'.size/\base<b
def zMQ (v v':Value):Prop:= ∀ b o n c b' o' n' c',v= .slice (some ⟨b,o,none⟩) n c->v'= .slice (some ⟨b',o',none⟩) n' c'->b≠b'
def zAi (I:Sig) (w:World) (base sz:Nat) (vs:List Value):Prop:=(∀ v∈vs,zDs I w base sz v)/\vs.Pairwise zMQ
theorem zAi.keep {I τ:Sig} {w w':World} {base sz:Nat} {vs:List Value} (hx: ∀ b o,I b=some o->τ b=some o) (hw: ∀ b o,I b=some o->w'.heap[b]? =w.heap[b]?) (h:zAi I w base sz vs):zAi τ w' base sz vs :=
 ⟨fun v hv=>by
   rcases h.1 v hv with e|⟨b,o,n,cap,c,c',T,h1,h2,h3,h4⟩
   ·exact .inl e
   ·exact .inr ⟨b,o,n,cap,c,c',T,h1,hx _ _ h2,by rw [hw _ _ h2];exact h3,h4⟩,h.2⟩
def zAt (I:Sig) (M:yN) (w:World) (id:Nat):Ob->Prop
 | .row e T xs=>xs.length<=140737488355328/\match M[id]? with
   | none=>False
   | some none=>xs=[]
   | some (some p)=>p.sz=e.size/\p.L=xs.length/\p.o+p.L*p.sz<=p.N/\∃ c,w.heap[p.b]? =some (.cells c T (0,0))/\c.size=p.N/\
     ∀ (i:Nat) (x:e.T),xs[i]? =some x->∃ d,jI I e x d/\∀ (j:Nat) (u:Value),d[j]? =some u->c[p.o+i*p.sz+j]? =some u
 | .flat T cs=> ∃ p,M[id]? =some (some p)/\p.o=0/\p.sz=cs.length/\p.L=1/\p.N=cs.length/\
    ∃ c,w.heap[p.b]? =some (.cells c T (0,0))/\jZ (y7 I M) cs c.toList
 | .map k v m=>(m.map (·.1)).Nodup/\∃ p es clock,M[id]? =some (some p)/\w.heap[p.b]? =some (.map es clock)/\(es.size=m.length/\MapKept.Stamped es clock)/\
    ∀ (i:Nat) (x:k.T×v.T),m[i]? =some x->∃ (en:MapEntry) (dk dv:List Value),es[i]? =some en/\jI I k x.1 dk/\en.key=yY k dk/\jI I v x.2 dv/\en.val=yY v dv
 | .gmap k e m=>(m.map (·.1)).Nodup/\∃ p es clock,M[id]? =some (some p)/\w.heap[p.b]? =some (.map es clock)/\es.size=m.length/\
    (∀ (i:Nat) (x:k.T×List e.T),m[i]? =some x->∃ (en:MapEntry) (dk dv:List Value),es[i]? =some en/\jI I k x.1 dk/\en.key=yY k dk/\jI I (.sl e) x.2 dv/\en.val=yY (.sl e) dv)/\
    zAi I w p.b e.size (es.toList.map (·.val))/\MapKept.Stamped es clock
 | .grow e T xss=>xss.length<=140737488355328/\∃ p,M[id]? =some (some p)/\p.sz=1/\p.L=xss.length/\p.o+p.L<=p.N/\∃ c,w.heap[p.b]? =some (.cells c T (0,0))/\c.size=p.N/\
    (∀ (i:Nat) (x:List e.T),xss[i]? =some x->∃ v,jI I (.sl e) x [v]/\c[p.o+i]? =some v)/\zAi I w p.b e.size ((c.toList.drop p.o).take p.L)
 | .fr X l=>M[id]? =some none/\∀ t,qA I M (qQ l t) (X.getD t undef)
structure Mem (I:Sig) (M:yN) (hp:zAG) (w:World):Prop where
 ag:Ag I w
 ob: ∀ id ob,hget hp id=some ob->zAt I M w id ob
section
variable {P:Program} {I:Sig} {M:yN} {w:World} {T:Tab} {hp:zAG}
theorem zAt.pln {id:Nat} {ob:Ob} (h:zAt I M w id ob):zAt I M w id ob.pln:=by
 cases ob with
 | row=>exact h
 | flat=>exact h
 | map=>exact h
 | fr=>exact h
 | gmap k e m =>
   obtain ⟨h0,p,es,clock,h1,h2,h3,h4,_,h6⟩:=h;exact ⟨h0,p,es,clock,h1,h2,⟨h3,h6⟩,h4⟩
 | grow e T xss =>
   obtain ⟨h0,p,h1,h2,h3,h4,c,h5,h6,h7,_⟩:=h;show xss.length<=140737488355328/\_;refine ⟨h0,?_⟩;simp only [h1];refine ⟨h2,h3,by rw [h2,Nat.mul_one];exact h4,c,h5,h6,fun i x hx=> ?_⟩;obtain ⟨v,e1,e2⟩:=h7 i x hx;refine ⟨[v],e1,fun j u hj=> ?_⟩;cases j with
   | zero=>simp at hj;subst hj;rw [h2];simpa using e2
   | succ j=>simp at hj
theorem zFa {id:Nat} {o:Ob} (h:hgp hp id=some o): ∃ o',hget hp id=some o'/\o'.pln=o:=by
 unfold hgp at h;split at h
 ·rename_i o' e;cases h;exact ⟨o',e,rfl⟩
 ·cases h
theorem Mem.obp (hm:Mem I M hp w) {id:Nat} {o:Ob} (h:hgp hp id=some o):zAt I M w id o:=by
 obtain ⟨o',h1,rfl⟩:=zFa h;exact (hm.ob _ _ h1).pln
theorem Addr.add_none (b o n:Nat):(⟨b,o,none⟩:Addr).add n=⟨b,o+n,none⟩:=by
 unfold Addr.add;split
 ·rename_i h;subst h;rfl
 ·rfl
theorem zAD {b:Nat} {c:Array Value} {u:TypeId} {fz:Nat×Nat} (h:w.heap[b]? =some (.cells c u fz)) (o:Nat):w.cell? ⟨b,o,none⟩=c[o]? :=by
 simp [World.cell?,h]
theorem zBm {t:TypeId} {ti:TI} (ht:zNT P t ti) {b o:Nat} {ds:List Value} (hl:ds.length=ti.size) (hc: ∀ (j:Nat) (d:Value),ds[j]? =some d->w.cell? ⟨b,o+j,none⟩=some d)
 (h1:zA6 ti.desc=false->ti.size=1) :
 ∃ val,(loadVar t ⟨b,o,none⟩).run P w= .ok val w/\(zA6 ti.desc=true->val= .agg ds.toArray)/\(zA6 ti.desc=false->ds=[val]):=by
 unfold loadVar;rw [zN,ht.run_isAgg,zL];cases hag:zA6 ti.desc with
 | true =>
   refine ⟨_,?_,fun _=>rfl,fun h=>by cases h⟩;have:=run_loadCells_list (P:=P) (w:=w) ⟨b,o,none⟩ ds (fun j v hj=>by rw [Addr.add_none];exact hc j v hj);simp only [if_true,zN,ht.run_sizeOf,zL];rw [<- hl,this];rfl
 | false =>
   have h1:=h1 hag
   match ds,hl,hc with
   | [d],_,hc =>
     refine ⟨d,?_,fun h=>(by cases h),fun _=>rfl⟩;have:=hc 0 d rfl;simp only [Bool.false_eq_true,if_false];rw [run_load];rw [show o+0=o from rfl] at this;simp [this]
   | [],hl,_=>simp at hl;omega
   | _::_::_,hl,_=>simp at hl;omega
theorem zDy {α:Type} {l:List α} {i:Nat} {x d:α} (h:l[i]? =some x):l.getD i d=x:=by simp [List.getD,h]
theorem zKW {agg:Bool} {l:List AS} {ds:List Value} (h:jZ (y7 I M) l ds) {k m:Nat} (hk:k+m<=l.length) (h1:agg=false->m=1) {val:Value}
 (hv1:agg=true->val= .agg ((ds.drop k).take m).toArray) (hv2:agg=false->(ds.drop k).take m=[val]):qA I M (part agg l k m) val:=by
 cases agg with
 | true=>exact ⟨_,hv1 rfl,(h.drop k).take m⟩
 | false =>
   have hm:=h1 rfl;subst hm;have hv:=hv2 rfl;obtain ⟨a,ha⟩: ∃ a,l[k]? =some a:=⟨_,zB (by omega)⟩;obtain ⟨d,hd,hr⟩:=h.get ha
   have:(ds.drop k).take 1=[d]:=by
    have h2:(ds.drop k)[0]? =some d:=by simpa using hd
    cases e:ds.drop k with
    | nil=>simp [e] at h2
    | cons x r=>simp [e] at h2;simp [h2]
   rw [this] at hv;obtain rfl:=(List.cons.inj hv).1;show y7 I M (l.getD k .junk) d;rw [zDy ha];exact hr
theorem zNo {c a b:AV} {x y z:Value} (hc:qA I M c x) (ha:qA I M a y) (hb:qA I M b z) :
 Snd P I M w (zZ1 c a b) (do pure (if <- asBool x then y else z)):=by
 unfold zZ1;split
 ·obtain rfl:=hc;exact Snd.pure ⟨y,by simp [asBool],ha⟩
 ·obtain rfl:=hc;exact Snd.pure ⟨z,by simp [asBool],hb⟩
 ·exact Snd.none
theorem zSg {op:UnOp} {a:AV} {x:Value} (ha:qA I M a x):Snd P I M w (cUn op a) (Op.unary op x):=by
 unfold cUn;split
 ·obtain rfl:=ha;exact Snd.ok ⟨_,by simp [Op.unary],rfl⟩
 ·obtain ⟨rfl,_⟩:=ha;exact zCi (by simp [Op.unary,Op.intArith])
 ·exact Snd.none
theorem zTy {k:IntKind} {n:Int} (h:InK k n):k.wrap n=n:=h
theorem zOT (hT:zAZ P T) {src dst:TypeId} {a:AV} {x:Value} {d0:TypeDesc} (hs:T.desc src=d0) (hd0:d0≠.invalid) (ha:qA I M a x):Snd P I M w (zY8 (T.desc dst) a) (convert src dst x):=by
 have run: ∀ {k k0:IntKind} {n:Int},T.desc dst= .int k->(convert src dst (.int k0 n)).run P w= .ok (.int k (k.wrap n)) w:=by
  intro k k0 n hd;unfold convert;rw [zN,hT.desc hs hd0,zL,zN,hT.desc hd (by simp),zL];simp [Conv.intToInt]
 unfold zY8;split
 ·rename_i k k0 n hd;obtain ⟨rfl,hn⟩:=ha;split
  ·exact Snd.ok ⟨_,by rw [run hd,zTy hn],rfl,hn⟩
  ·exact Snd.mk hn.u64 fun _=>⟨_,run hd,rfl,InK.wrap _ _⟩
  ·have:=hn.u8;exact Snd.mk this fun _=>⟨_,by rw [run hd,IntWalk.i64_in _ (by omega)],rfl,InK.i64.2 (by unfold zAL;omega)⟩
  ·exact Snd.mk (InK.i64.1 hn) fun _=>⟨_,run hd,rfl,InK.wrap _ _⟩
  ·exact Snd.ok ⟨_,run hd,rfl,InK.wrap _ _⟩
 ·exact Snd.none
theorem jL.get: ∀ {l:List AV} {m:List Value},jL I M l m->∀ {i:Nat} {a:AV},l[i]? =some a->∃ b,m[i]? =some b/\qA I M a b :=
 fun h _ _ e=>jZ.get (zCV.1 h) e
theorem zQf {a:AV} {x:Value} {i:Nat} (ha:qA I M a x):Snd P I M w (z24 a i) (Instr.extract x i):=by
 unfold z24;split
 ·split
  ·rename_i l v hv;obtain ⟨vs,rfl,hvs⟩:=ha;obtain ⟨b,hb,hr⟩:=hvs.get hv;exact Snd.pure ⟨b,by simp [Instr.extract,hb],hr⟩
  ·exact Snd.none
 ·exact Snd.none
theorem zHE {d:TypeDesc} {f off:Nat} {u:TypeId} (h:zIl d f=some (off,u)): ∃ fs fld,d= .struct fs/\fs[f]? =some fld/\fld.offset=off/\fld.type=u:=by
 unfold zIl at h;split at h
 ·rename_i fs;split at h
  ·rename_i fld hf;cases h;exact ⟨fs,fld,rfl,by simpa using hf,rfl,rfl⟩
  ·contradiction
 ·contradiction
def zHB (T:Tab):Prop:= ∀ t ti,zEt T.ty t=some ti->zA6 ti.desc=false->ti.size=1
theorem zPB {t:TypeId} {ti:TI} (ht:zNT P t ti) {ds:List Value} {off:Nat} (hl:off+ti.size<=ds.length) (h1:zA6 ti.desc=false->ti.size=1) :
 ∃ val,(Go.part t ds.toArray off).run P w= .ok val w/\(zA6 ti.desc=true->val= .agg ((ds.drop off).take ti.size).toArray)/\(zA6 ti.desc=false->(ds.drop off).take ti.size=[val]):=by
 unfold Go.part;rw [zN,ht.run_isAgg,zL];cases hag:zA6 ti.desc with
 | true =>
   refine ⟨_,by simp only [if_true,zN,ht.run_sizeOf,zL];rfl,fun _=> ?_,fun h=>by cases h⟩
   congr 1
   apply Array.ext';simp [List.extract]
 | false =>
   have h1:=h1 hag;obtain ⟨d,hd⟩: ∃ d,ds[off]? =some d:=⟨_,zB (by omega)⟩;refine ⟨d,by simp [hd],fun h=>(by cases h),fun _=> ?_⟩;have h2:(ds.drop off)[0]? =some d:=by simpa using hd
   rw [h1];cases e:ds.drop off with
   | nil=>simp [e] at h2
   | cons x r=>simp [e] at h2;simp [h2]
theorem zM8 (hT:zAZ P T) (hO:zHB T) {t:TypeId} {f:Nat} {a:AV} {x:Value} (ha:qA I M a x):Snd P I M w (zTx T t a f) (Instr.field t x f):=by
 unfold zTx;split
 ·rename_i l off u hf;split
  ·rename_i ti hi;refine Snd.fitting fun hle=> ?_;obtain ⟨ds,rfl,hds⟩:=ha;obtain ⟨fs,fld,hd,hfl,rfl,rfl⟩:=zHE hf;obtain ⟨val,hrun,hv1,hv2⟩:=zPB (w:=w) (hT _ _ hi) (ds:=ds) (off:=fld.offset) (by rw [<- hds.length];exact hle) (hO _ _ hi);refine ⟨val,?_,zKW hds hle (hO _ _ hi) hv1 hv2⟩;unfold Instr.field;rw [zN,hT.desc hd (by simp),zL];simp [hfl,asAgg,hrun]
  ·exact Snd.none
 ·exact Snd.none
theorem zEX: ∀ {l:List AS} {ns:List Int} {ds:List Value},zC3 l=some ns->jZ (y7 I M) l ds->ns.length=l.length/\ds.length=l.length/\
 ∀ i,i<l.length->ds[i]? =some (.int .i64 (ns.getD i 0))/\InK .i64 (ns.getD i 0)
 | [],ns,ds,h,hr=>by cases h;obtain rfl:=hr.len_nil;simp
 | .int .i64 n::r,ns,d::ds,h,hr=>by
   simp only [zC3] at h;split at h
   ·rename_i l' hl';cases h;obtain ⟨h1,h2,h3⟩:=zEX hl' hr.2;refine ⟨by simp [h1],by simp [h2],fun i hi=> ?_⟩;cases i with
    | zero=>obtain ⟨rfl,hk⟩:=hr.1;simp [hk]
    | succ i=>simpa using h3 i (by simpa using hi)
   ·contradiction
 | .int .i64 _::_,_,[],_,hr=>hr.elim
theorem zGV {i:Int} (h:Int.blt' i=false):0<=i:=by
 cases i<;>simp [Int.blt'] at h ⊢
theorem zNJ (hT:zAZ P T) (hO:zHB T) {t:TypeId} {a i:AV} {lit:Bool} {x y:Value} (ha:qA I M a x) (hi:qA I M i y) :
 Snd P I M w (zRj T t a i lit) (Instr.index t x y):=by
 have run: ∀ {ds:List Value} {k:IntKind} {n:Int} {u m:Nat} {ti:TI} {d:Value},T.desc t= .array m u->T.info u=some ti->ti.size=1->zA6 ti.desc=false->0<=n->n<m->ds.length=m->ds[n.toNat]? =some d->
  (Instr.index t (.agg ds.toArray) (.int k n)).run P w= .ok d w:=by
  intro ds k n u m ti d hd hu hs hag h0 hn hl hdn;unfold Instr.index;simp only [asIntOf,zN,qD,zL,hT.desc (w:=w) hd (by simp)];rw [if_pos ⟨h0,hn⟩,zN,(hT _ _ hu).run_sizeOf,zL,hs,Nat.mul_one];obtain ⟨val,h1,_,h3⟩:=zPB (w:=w) (hT _ _ hu) (ds:=ds) (off:=n.toNat) (by rw [hs];omega) (fun _=>hs);rw [h1];have h3:=h3 hag;rw [hs] at h3;have h2:(ds.drop n.toNat)[0]? =some d:=by simpa using hdn
  cases e:ds.drop n.toNat with
  | nil=>simp [e] at h2
  | cons q r=>simp [e] at h2 h3;rw [<- h3,h2]
 unfold zRj;split
 ·rename_i l k n m u hd;split
  ·rename_i ti hu;split
   ·rename_i hs hag hlen;have hlen:=zC hlen;obtain ⟨ds,rfl,hds⟩:=ha;obtain ⟨rfl,hk⟩:=hi;split
    ·split
     ·rename_i hb hz;have h0:=zGV hz;have hlt:n.toNat+1<=m:=by simpa [Nat.blt] using hb
      obtain ⟨a,ha⟩: ∃ a,l[n.toNat]? =some a:=⟨_,zB (by omega)⟩;obtain ⟨d,hd',hr⟩:=hds.get ha;exact Snd.ok ⟨d,run hd hu hs hag h0 (by omega) (by rw [<- hds.length];exact hlen) hd',by rw [zDy ha];exact hr⟩
     ·exact Snd.none
    ·split
     ·rename_i ns hns;obtain ⟨h1,h2,h3⟩:=zEX hns hds;refine Snd.need fun ⟨h0,hlt⟩=> ?_;obtain ⟨e1,e2⟩:=h3 n.toNat (by omega);exact ⟨_,run hd hu hs hag h0 (by omega) (by rw [<- hds.length];exact hlen) e1,rfl,e2⟩
     ·exact Snd.none
   ·exact Snd.none
  ·exact Snd.none
 ·exact Snd.none
theorem zBW {a:AV} {x:Value} {m:List AS} (h:qA I M a x) (e:a.flat=some m):jZ (y7 I M) m x.cells.toList:=by
 unfold AV.flat at e;split at e
 ·contradiction
 ·rename_i s hs;cases e
  have:x.cells= #[x]:=by
   have hx:y7 I M s x:=h;cases s with
   | int=>obtain ⟨rfl,_⟩:=hx;rfl
   | bool=>obtain rfl:=hx;rfl
   | val u=>obtain ⟨rfl,hu⟩:=hx;cases x<;>first|rfl|exact (hu _ rfl).elim
   | sl=>obtain ⟨a,cap,e,_⟩:=hx;obtain rfl:=(List.cons.inj e).1;rfl
   | mp=>obtain ⟨r,e,_⟩:=hx;obtain rfl:=(List.cons.inj e).1;rfl
   | pt _ o=>cases o with
     | none=>obtain rfl:=(List.cons.inj (show _=_ from hx)).1;rfl
     | some z=>obtain ⟨_,_,_,e,_⟩:=hx;obtain rfl:=(List.cons.inj e).1;rfl
   | ip=>obtain ⟨_,_,_,rfl,_⟩:=hx;rfl
   | ipi=>obtain ⟨_,_,_,rfl,_⟩:=hx;rfl
   | own id s n =>
     simp only [y7] at hx;split at hx
     ·exact hx.elim
     ·obtain ⟨⟨_,rfl⟩,_⟩:=hx;rfl
     ·obtain ⟨_,_,rfl,_⟩:=hx;rfl
   | ptr=>obtain ⟨_,_,rfl,_⟩:=hx;rfl
   | pti=>obtain ⟨_,_,rfl,_⟩:=hx;rfl
   | omp=>obtain ⟨_,_,rfl,_⟩:=hx;rfl
   | arr=>obtain ⟨_,_,rfl,_⟩:=hx;rfl
   | clo=>obtain ⟨_,rfl,_⟩:=hx;rfl
   | nq=>obtain ⟨_,rfl,_⟩:=hx;rfl
   | emp=>obtain ⟨_,rfl⟩:=hx;rfl
   | junk=>exact (hs rfl).elim
  rw [this];exact ⟨h,trivial⟩
 ·rename_i l;cases e;obtain ⟨ds,rfl,hds⟩:=h;exact hds
 ·contradiction
end
end Go.Vm
namespace Go.Vm
open Go.RowKit
section
variable {P:Program} {I:Sig} {M:yN} {w:World} {T:Tab} {hp:zAG}
theorem zBw {α:Type} {l:List α} {i:Nat} (h:i<l.length): ∃ x,l[i]? =some x:=⟨_,zB h⟩
theorem jZ.getD {α β':Type} {R:α->β'->Prop} {l:List α} {m:List β'} (h:jZ R l m):l.length=m.length:=h.length
theorem foldl_set (off:Nat): ∀ (m:List Value) (k:Nat) (cs:List Value),off+k+m.length<=cs.length->
 ((m.zipIdx k).foldl (fun (cs:Array Value) (p:Value×Nat)=>cs.setIfInBounds (off+p.2) p.1) cs.toArray).toList=cs.take (off+k)++m++cs.drop (off+k+m.length)
 | [],k,cs,_=>by simp
 | x::m,k,cs,h=>by
   simp only [List.zipIdx_cons,List.foldl_cons];rw [show (cs.toArray.setIfInBounds (off+k) x)=(cs.set (off+k) x).toArray by simp];rw [foldl_set off m (k+1) (cs.set (off+k) x) (by simp at h ⊢;omega)];apply List.ext_getElem?;intro i;simp only [zZ] at h;simp only [List.getElem?_append,yS,jU,qI,zAN,z7,qZ,zZ,List.getElem?_cons]
   repeat' split
   all_goals first|rfl|omega|(simp_all;omega)|skip
   all_goals (first|(congr 1;omega)|simp_all)
theorem zLK {place:Nat->Option (Nat×Nat)} : ∀ {l l':List AS} {ps:List (Nat×AV)} {vs:List (Nat×Value)} {ds:List Value},lay place l ps=some l'->jZ (y7 I M) l ds->
 jZ (fun (p:Nat×AV) (q:Nat×Value)=>p.1=q.1/\qA I M p.2 q.2) ps vs->∃ ds',Instr.fill place ds.toArray vs=some ds'.toArray/\jZ (y7 I M) l' ds'
 | l,l',[],[],ds,h,hr,_=>by cases h;exact ⟨ds,rfl,hr⟩
 | l,l',(i,v)::ps,(j,u)::vs,ds,h,hr,hv=>by
   obtain ⟨⟨rfl,hu⟩,hv⟩:=hv;simp only [lay] at h;split at h
   ·rename_i m off size hm hp;split at h
    ·rename_i hs hle;have hs:=zC hs;have hle:=zU hle;have hf:=zBW hu hm;have hlen:u.cells.toList.length=m.length:=hf.length.symm;have hsz:u.cells.size=m.length:=by simpa using hlen
     have hov:jZ (y7 I M) (zAk l off m) (ds.take off++u.cells.toList++ds.drop (off+u.cells.toList.length)):=by
      unfold zAk;rw [hlen];exact ((hr.take _).append hf).append (hr.drop _)
     obtain ⟨ds',h1,h2⟩:=zLK h hov hv;refine ⟨ds',?_,h2⟩;simp only [Instr.fill,hp];have hdl:ds.length=l.length:=hr.length.symm;rw [if_neg (by simp [hsz,hs,hdl];omega)];have:=foldl_set off u.cells.toList 0 ds (by rw [hlen,hdl];omega);rw [<- h1]
     congr 1
     apply Array.ext'
     rw [show (u.cells.zipIdx.foldl (fun cs x=>cs.setIfInBounds (off+x.2) x.1) ds.toArray)=((u.cells.toList.zipIdx 0).foldl (fun (cs:Array Value) (p:Value×Nat)=>cs.setIfInBounds (off+p.2) p.1) ds.toArray) by
      rw [<- Array.foldl_toList];simp]
     rw [this];simp
    ·contradiction
   ·contradiction
 | _,_,[],_::_,_,_,_,h=>h.elim
 | _,_,_::_,[],_,_,_,h=>h.elim
theorem Tab.has_of {t:TypeId} (h:T.has t=true): ∃ ti,zEt T.ty t=some ti:=by
 unfold Tab.has at h;split at h
 ·rename_i ti e;exact ⟨ti,e⟩
 ·cases h
theorem zLx (hT:zAZ P T): ∀ {fs:List Field},fs.all (fun f=>T.has f.type)=true->
 fs.mapM (fun f=>(P.info? f.type).map fun i=>(f.offset,i.size))=some (fs.map fun f=>(f.offset,T.sizeOf f.type))
 | [],_=>rfl
 | f::fs,h=>by
   simp only [qS,zA] at h;obtain ⟨ti,e⟩:=Tab.has_of h.1;obtain ⟨i,_,hi,hs,_⟩:=(hT _ _ e).get;rw [List.mapM_cons,zLx hT h.2];simp [hi,Tab.sizeOf,e,hs]
theorem zNO (hT:zAZ P T) {t:TypeId} {ps:List (Nat×AV)} {vs:Array (Nat×Value)} (hv:jZ (fun (p:Nat×AV) (q:Nat×Value)=>p.1=q.1/\qA I M p.2 q.2) ps vs.toList) :
 Snd P I M w (zUd T t ps) (Instr.build t vs):=by
 unfold zUd;split
 ·rename_i ti hti;have ht:=hT _ _ hti;obtain ⟨i,z,hi,hs,hb,hz,hzl⟩:=ht.get;have hz0:jZ (y7 I M) ti.zero z.cells.toList:=by rw [hzl];exact zEk ht.zok
  split
  ·rename_i fs hd;split
   ·rename_i l hl hall;obtain ⟨ds',h1,h2⟩:=zLK hl hz0 hv;refine Snd.pure ⟨_,run_build w t vs ds'.toArray ?_,ds',rfl,h2⟩;unfold Program.built;rw [hi,ht.und,hd];simp only [hz,zLx hT hall];rw [<- h1]
    congr 1
    funext i
    simp only [List.getElem?_toArray,zAB];cases fs.toList[i]? <;>rfl
   ·exact Snd.none
  ·rename_i n u hd;split
   ·rename_i l hl hu;obtain ⟨ui,e⟩:=Tab.has_of hu;obtain ⟨iu,_,hiu,hsu,_⟩:=(hT _ _ e).get;obtain ⟨ds',h1,h2⟩:=zLK hl hz0 hv;refine Snd.pure ⟨_,run_build w t vs ds'.toArray ?_,ds',rfl,h2⟩;unfold Program.built;rw [hi,ht.und,hd];simp only [hz,hiu];rw [<- h1];simp [Tab.sizeOf,e,hsu]
   ·exact Snd.none
  ·exact Snd.none
 ·exact Snd.none
theorem zH1 (hm:Mem I M hp w) {b o:Nat} {ds:List Value} (h:zCJ I b o ds) (j:Nat) (d:Value) (hj:ds[j]? =some d):w.cell? ⟨b,o+j,none⟩=some d:=by
 obtain ⟨c,u,fz,e,r⟩:=h;obtain ⟨o',e1,h1⟩:=hm.ag _ _ e;obtain ⟨c',rfl,k⟩:=h1.cells;rw [zAD e1];exact k _ _ (r j d hj)
theorem zB6 {t:TypeId} {b o:Nat} :(Instr.loadAt t (.pointer (some ⟨b,o,none⟩))).run P w=(loadVar t ⟨b,o,none⟩).run P w:=by
 simp [Instr.loadAt,Instr.sureAddr]
theorem zF5 {t:TypeId} {ti:TI} (ht:zNT P t ti) (h1:zA6 ti.desc=false->ti.size=1) {l:List AS} {ds:List Value} (hr:jZ (y7 I M) l ds) {b o k:Nat} (hk:k+ti.size<=l.length)
 (hc: ∀ (j:Nat) (d:Value),ds[j]? =some d->w.cell? ⟨b,o+j,none⟩=some d) :
 ∃ val,(Instr.loadAt t (.pointer (some ⟨b,o+k,none⟩))).run P w= .ok val w/\qA I M (part (zA6 ti.desc) l k ti.size) val:=by
 have hlen:=hr.length
 obtain ⟨val,e1,e2,e3⟩:=zBm (w:=w) ht (b:=b) (o:=o+k) (ds:=(ds.drop k).take ti.size) (by simp;omega) (fun j d hj=>by
  rw [yS] at hj;split at hj
  ·rw [jU] at hj;rw [zAP];exact hc _ _ hj
  ·cases hj) h1
 exact ⟨val,by rw [zB6];exact e1,zKW hr hk h1 e2 e3⟩
theorem zML {k:IntKind} : ∀ {l:List AS} {ns:List Int} {ds:List Value},z03 k l=some ns->jZ (y7 I M) l ds->ns.length=l.length/\ds.length=l.length/\
 ∀ i,i<l.length->ds[i]? =some (.int k (ns.getD i 0))/\InK k (ns.getD i 0)
 | [],ns,ds,h,hr=>by cases h;obtain rfl:=hr.len_nil;simp
 | .int k' n::r,ns,d::ds,h,hr=>by
   simp only [z03] at h;split at h
   ·rename_i l' hk' hl';cases h;have hk':=of_decide_eq_true hk';subst hk';obtain ⟨h1,h2,h3⟩:=zML hl' hr.2;refine ⟨by simp [h1],by simp [h2],fun i hi=> ?_⟩;cases i with
    | zero=>obtain ⟨rfl,hk⟩:=hr.1;simp [hk]
    | succ i=>simpa using h3 i (by simpa using hi)
   ·contradiction
 | .int _ _::_,_,[],_,hr=>hr.elim
theorem zKp {d:TypeDesc} {l:List AS} {k:IntKind} {ns:List Int} (h:zEm d l=some (k,ns)):zA6 d=false/\z03 k l=some ns:=by
 unfold zEm at h;split at h
 ·split at h
  ·rename_i e;cases h;exact ⟨rfl,e⟩
  ·cases h
 ·cases h
theorem zKT (hO:zHB T) (hT:zAZ P T) {t:TypeId} {ti:TI} (hti:T.info t=some ti) {l:List AS} {k:IntKind} {ns:List Int} (hli:zEm ti.desc l=some (k,ns)) {ds:List Value} (hr:jZ (y7 I M) l ds) {b o j:Nat} (hj:j<l.length)
 (hc: ∀ (j:Nat) (d:Value),ds[j]? =some d->w.cell? ⟨b,o+j,none⟩=some d) :
 ∃ val,(Instr.loadAt t (.pointer (some ⟨b,o+j,none⟩))).run P w= .ok val w/\y7 I M (.int k (ns.getD j 0)) val:=by
 obtain ⟨hag,hns⟩:=zKp hli;obtain ⟨h1,h2,h3⟩:=zML hns hr;obtain ⟨e1,e2⟩:=h3 j hj;have hs:=hO _ _ hti hag
 obtain ⟨val,f1,f2,f3⟩:=zBm (w:=w) (hT _ _ hti) (b:=b) (o:=o+j) (ds:=[.int k (ns.getD j 0)]) (by rw [hs];rfl) (fun i d hi=>by
  cases i with
  | zero=>simp at hi;subst hi;exact hc _ _ e1
  | succ i=>simp at hi) (fun _=>hs)
 have:=f3 hag;obtain rfl:=(List.cons.inj this).1;exact ⟨_,by rw [zB6];exact f1,rfl,e2⟩
theorem jI.cells_length {e:ETy} {x:e.T} :(e.cells x).length=e.size:=by
 induction e with
 | pair a b iha ihb=>simp [ETy.cells,ETy.size,iha,ihb]
 | _=>rfl
theorem zBs (hT:zAZ P T) (hO:zHB T) (hm:Mem I M hp w) {t:TypeId} {a:AV} {x:Value} (ha:qA I M a x):Snd P I M w (zK8 T t hp a) (Instr.loadAt t x):=by
 unfold zK8;split
 ·rename_i s ti hti;have ht:=hT _ _ hti;have h1:=hO _ _ hti;have hx:y7 I M s x:=ha;split
  ·obtain ⟨b,o,d,rfl,he,hc⟩:=hx;exact Snd.fitting fun hle=>zF5 ht h1 (he.cells (M:=M)) (by rw [jI.cells_length];exact hle) (zH1 hm hc)
  ·split
   ·rename_i e o _ hle;have hle:=zU hle;refine Snd.mk trivial fun hq=> ?_;obtain ⟨x',rfl⟩:=zBP.1 (show o.isSome=true from hq);obtain ⟨b,off,d,e1,he,hc⟩:=hx;obtain rfl:=(List.cons.inj e1).1;exact zF5 (k:=0) ht h1 (he.cells (M:=M)) (by rw [jI.cells_length];omega) (zH1 hm hc)
   ·exact Snd.none
  ·split
   ·rename_i k ns hns;obtain ⟨b,o,d,rfl,he,hc,hj⟩:=hx;exact Snd.ok (zKT hO hT hti hns (he.cells (M:=M)) (by rw [jI.cells_length];exact hj) (zH1 hm hc))
   ·exact Snd.none
  ·split
   ·rename_i e u xs hid;obtain ⟨p,hp',rfl,hi⟩:=hx;have:=hm.obp hid;obtain ⟨_,this⟩:=this;simp only [hp'] at this;obtain ⟨q1,q2,q3,c,q4,q5,q6⟩:=this;obtain ⟨y,hy⟩:=zBw (l:=xs) (q2▸hi);obtain ⟨d,he,hc⟩:=q6 _ _ hy;rw [zDy hy];exact Snd.fitting fun hle=>zF5 ht h1 (he.cells (M:=M)) (by rw [jI.cells_length];exact hle) (fun j d hj=>by rw [zAD q4];exact hc j d hj)
   ·rename_i u cs hid;split
    ·obtain ⟨p,hp',rfl,hi⟩:=hx;obtain ⟨p2,q0,q1,q2,q3,q4,c,q5,q6⟩:=hm.obp hid;rw [hp'] at q0;cases q0;refine Snd.fitting fun hle=> ?_;have:=zF5 (w:=w) (b:=p.b) (o:=0) ht h1 q6 hle (fun j d hj=>by rw [zAD q5];simpa using hj);simpa [q1] using this
    ·exact Snd.none
   ·exact Snd.none
  ·split
   ·rename_i e u xs hid;split
    ·rename_i k ns hns;obtain ⟨p,hp',rfl,hi,hj⟩:=hx;have:=hm.obp hid;obtain ⟨_,this⟩:=this;simp only [hp'] at this;obtain ⟨q1,q2,q3,c,q4,q5,q6⟩:=this;obtain ⟨y,hy⟩:=zBw (l:=xs) (q2▸hi);obtain ⟨d,he,hc⟩:=q6 _ _ hy;rw [zDy hy] at hns;exact Snd.ok (zKT hO hT hti hns (he.cells (M:=M)) (by rw [jI.cells_length];omega) (fun j d hj=>by rw [zAD q4];exact hc j d hj))
    ·exact Snd.none
   ·rename_i u cs hid;split
    ·rename_i k ns hns;obtain ⟨p,hp',rfl,hi,hj⟩:=hx;obtain ⟨p2,q0,q1,q2,q3,q4,c,q5,q6⟩:=hm.obp hid;rw [hp'] at q0;cases q0;have:=zKT (w:=w) (b:=p.b) (o:=0) hO hT hti hns q6 (j:=_) (by rw [<- q2];exact hj) (fun j d hj=>by rw [zAD q5];simpa using hj);exact Snd.ok (by simpa [q1] using this)
    ·exact Snd.none
   ·exact Snd.none
  ·exact Snd.none
 ·exact Snd.none
end
end Go.Vm
namespace Go.Vm
open Go.RowKit
section
variable {P:Program} {I:Sig} {M:yN} {w:World} {T:Tab} {hp:zAG}
theorem zHO (hT:zAZ P T) {t:TypeId} {f:Nat} {a:AV} {x:Value} (ha:qA I M a x):Snd P I M w (zGX T t a f) (Instr.fieldAt t x f):=by
 have run: ∀ {off:Nat} {u:TypeId} {b o:Nat},zIl (T.desc t) f=some (off,u)->Nat.beq (T.sizeOf u) 0=false->(Instr.fieldAt t (.pointer (some ⟨b,o,none⟩)) f).run P w= .ok (.pointer (some ⟨b,o+off,none⟩)) w:=by
  intro off u b o hf hz;obtain ⟨fs,fld,hd,hfl,rfl,rfl⟩:=zHE hf;unfold Instr.fieldAt;rw [zN,hT.desc hd (by simp),zL]
  have hs:(sizeOf fld.type).run P w= .ok (T.sizeOf fld.type) w:=by
   unfold Tab.sizeOf at hz ⊢;cases e:zEt T.ty fld.type with
   | none=>simp [e] at hz
   | some ti=>exact (hT _ _ e).run_sizeOf
  have hne:T.sizeOf fld.type≠0:=by intro e;rw [e] at hz;cases hz
  simp [hfl,Instr.sureAddr,fieldPlace,hs,hne,Addr.add_none]
 unfold zGX;split
 ·rename_i s off u hf;have hx:y7 I M s x:=ha;split
  ·rename_i hz;obtain ⟨b,o,d,rfl,he,hc⟩:=hx;exact Snd.ok ⟨_,run hf hz,b,o,d,by rw [zAP],he,hc⟩
  ·rename_i e o hz;refine Snd.need fun hq=> ?_;obtain ⟨x',rfl⟩:=zBP.1 hq;obtain ⟨b,off,d,e1,he,hc⟩:=hx;obtain rfl:=(List.cons.inj e1).1;exact ⟨_,run hf hz,b,off,d,rfl,he,hc⟩
  ·rename_i hz;obtain ⟨p,hp',rfl,hi⟩:=hx;exact Snd.ok ⟨_,run hf hz,p,hp',by rw [zAP],hi⟩
  ·exact Snd.none
 ·exact Snd.none
theorem zRw {a v:AV} {p q:Option Prop} {x:Value} (ha:qA I M a x) (h:z3E a=some (p,q,v)):Opt p/\(Opt q->(∃ ad,x= .pointer (some ad))/\qA I M v x):=by
 unfold z3E at h;split at h
 ·cases h;obtain ⟨b,o,d,rfl,he,hc⟩:=ha;exact ⟨trivial,fun _=>⟨⟨_,rfl⟩,b,o,d,rfl,he,hc⟩⟩
 ·rename_i e o;cases h;refine ⟨trivial,fun hq=> ?_⟩;cases o with
  | none=>cases hq
  | some z =>
    refine ⟨?_,ha⟩;obtain ⟨b,o,d,e1,_⟩:=ha;exact ⟨_,(List.cons.inj e1).1⟩
 ·cases h;obtain ⟨p,hp',rfl,hi⟩:=ha;exact ⟨trivial,fun _=>⟨⟨_,rfl⟩,p,hp',rfl,hi⟩⟩
 ·cases h
theorem zDF (hT:zAZ P T) {u:TypeId} (h:T.sizeOf u≠0):(sizeOf u).run P w= .ok (T.sizeOf u) w:=by
 unfold Tab.sizeOf at h ⊢;cases e:zEt T.ty u with
 | none=>simp [e] at h
 | some ti=>exact (hT _ _ e).run_sizeOf
theorem zBb (hT:zAZ P T) {t u:TypeId} {n b o:Nat} {k:IntKind} {i:Int} (hd:T.desc t= .array n u) (hu:T.sizeOf u≠0) (h0:0<=i) (hn:i<n) :
 (Instr.indexAt t (.pointer (some ⟨b,o,none⟩)) (.int k i)).run P w= .ok (.pointer (some ⟨b,o+i.toNat*T.sizeOf u,none⟩)) w:=by
 unfold Instr.indexAt;simp only [asIntOf,zN,qD,zL,hT.desc (w:=w) hd (by simp),Instr.sureAddr];rw [if_pos ⟨h0,hn⟩];simp [zDF (w:=w) hT hu,Addr.add_none]
theorem zGA (hT:zAZ P T) {t u:TypeId} {n cap b o:Nat} {k:IntKind} {i:Int} (hd:T.desc t= .slice u) (hu:T.sizeOf u≠0) (h0:0<=i) (hn:i<n) :
 (Instr.indexAt t (.slice (some ⟨b,o,none⟩) n cap) (.int k i)).run P w= .ok (.pointer (some ⟨b,o+i.toNat*T.sizeOf u,none⟩)) w:=by
 unfold Instr.indexAt;simp only [asIntOf,zN,qD,zL,hT.desc (w:=w) hd (by simp)];rw [if_pos ⟨h0,hn⟩];simp [zDF (w:=w) hT hu,Addr.add_none]
theorem zDi (hT:zAZ P T) (hm:Mem I M hp w) {t:TypeId} {a i:AV} {lit:Bool} {x y:Value} (ha:qA I M a x) (hi:qA I M i y) :
 Snd P I M w (zAl T t hp a i lit) (Instr.indexAt t x y):=by
 unfold zAl;split
 ·rename_i s k i n u hd;obtain ⟨rfl,hk⟩:=hi;have hx:y7 I M s x:=ha;split
  ·split
   ·rename_i hb hz hs;have h0:=zGV hz;have hlt:i.toNat+1<=n:=by simpa [Nat.blt] using hb
    obtain ⟨b,o,d,rfl,he,hc⟩:=hx;have hs':T.sizeOf u≠0:=by intro e;rw [e] at hs;cases hs
    exact Snd.ok ⟨_,zBb hT hd hs' h0 (by omega),b,o,d,by rw [zAP],he,hc⟩
   ·rename_i hb hz hs;have h0:=zGV hz;have hlt:i.toNat+1<=n:=by simpa [Nat.blt] using hb
    obtain ⟨p,hp',rfl,hi⟩:=hx;have hs':T.sizeOf u≠0:=by intro e;rw [e] at hs;cases hs
    exact Snd.ok ⟨_,zBb hT hd hs' h0 (by omega),p,hp',by rw [zAP],hi⟩
   ·exact Snd.none
  ·split
   ·rename_i hs;split
    ·rename_i hb;obtain ⟨b,o,d,rfl,he,hc⟩:=hx;have hb:=zC hb;refine Snd.need fun ⟨h0,hlt⟩=>⟨_,zBb hT hd (by omega) h0 hlt,b,o,d,by rw [hs];simp,he,hc,by omega⟩
    ·exact Snd.none
   ·rename_i hs;split
    ·rename_i e u' xs hid;split
     ·rename_i hb;have hb:=zC hb;obtain ⟨p,hp',rfl,hi⟩:=hx;have:=(hm.obp hid).2;simp only [hp'] at this;have hsz:=this.1;refine Snd.need fun ⟨h0,hlt⟩=>⟨_,zBb hT hd (by omega) h0 hlt,p,hp',by rw [hs];simp,hi,by omega⟩
     ·exact Snd.none
    ·rename_i u' cs hid;split
     ·rename_i hb;have hb:=zC hb;obtain ⟨p,hp',rfl,hi⟩:=hx;obtain ⟨p2,q0,q1,q2,q3,q4,c,q5,q6⟩:=hm.obp hid;rw [hp'] at q0;cases q0;refine Snd.need fun ⟨h0,hlt⟩=>⟨_,zBb hT hd (by omega) h0 hlt,p,hp',by rw [hs];simp,hi,by omega⟩
     ·exact Snd.none
    ·exact Snd.none
   ·exact Snd.none
 ·rename_i s k i u hd;obtain ⟨rfl,hk⟩:=hi;have hx:y7 I M s x:=ha;split
  ·rename_i e xs;split
   ·rename_i hb hz';have hz:T.sizeOf u≠0:=by intro e;rw [e] at hz';cases hz'
    have hb:=zC hb;refine Snd.need fun ⟨h0,hlt⟩=> ?_;obtain ⟨a,cap,e1,hle,hcap,hr⟩:=hx;obtain rfl:=(List.cons.inj e1).1;obtain ⟨y,hy⟩:=zBw (l:=xs) (i:=i.toNat) (by omega);obtain ⟨b,o,rfl,hr'⟩:=hr (by rintro rfl;simp at hy);obtain ⟨d,he,hc⟩:=hr' _ _ hy;refine ⟨_,zGA hT hd hz h0 hlt,b,o+i.toNat*e.size,d,by rw [hb];rfl,by rw [zDy hy];exact he,hc⟩
   ·exact Snd.none
  ·rename_i id s n;split
   ·rename_i e u' xs hid;split
    ·rename_i hb hz';have hz:T.sizeOf u≠0:=by intro e;rw [e] at hz';cases hz'
     have hb:=zC hb;refine Snd.need fun ⟨h0,hlt⟩=> ?_;have:=(hm.obp hid).2;simp only [y7] at hx;cases hβ:M[id]? with
     | none=>simp [hβ] at hx
     | some q =>
       cases q with
       | none=>simp only [hβ] at hx;omega
       | some p =>
         simp only [hβ] at hx this;obtain ⟨a,cap,rfl,h1,h2,h3,h4⟩:=hx;obtain rfl:a=_:=h2.resolve_left (by omega);refine ⟨_,zGA hT hd hz h0 (by omega),p,hβ,?_,by omega⟩;rw [hb,<- this.1,Nat.add_mul];simp [zAP]
    ·exact Snd.none
   ·exact Snd.none
  ·exact Snd.none
 ·exact Snd.none
theorem zFE {n:Nat} (h:n<=140737488355328):InK .i64 (n:Int):=InK.i64.2 (by unfold zAL;omega)
def zLC (d:TypeDesc) (x:Value):Sem Value :=
 match d,x with
  | .string,.string s=>pure (goInt s.size)
  | .array n _,_=>pure (goInt n)
  | .pointer arr,_=>do
    let .array n _ ← underlying arr | stuck "len: pointer to array expected"
    pure (goInt n)
  | .slice _,.slice _ n _=>pure (goInt n)
  | .map _ _,.map none|.chan _ _,.chan none=>pure (goInt 0)
  | .map _ _,.map (some r)=>do
    let .map entries _ ← getObj r | stuck "len: map expected"
    pure (goInt entries.size)
  | .chan _ _,.chan (some r)=>do
    let .chan _ buf _ _ _ timer ← getObj r | stuck "len: channel expected"
    pure (goInt (if timer then 0 else buf.size))
  | _, _ => stuck "len: string, array, pointer to array, slice, map or channel expected"
theorem zYJ (hT:zAZ P T) {ts:Array TypeId} {t:TypeId} (ht:ts[0]? =some t) {d:TypeDesc} (hd:T.desc t=d) (hne:d≠.invalid) (ty:TypeId) (x:Value) :
 (Builtin.len_ ts ty #[x]).run P w=(zLC d x).run P w:=by
 unfold Builtin.len_ zLC;simp only [ht];rw [show (#[x]:Array Value)[0]? =some x from rfl];simp only [zN,hT.desc (w:=w) hd hne,zL];rfl
theorem zON (hT:zAZ P T) (hm:Mem I M hp w) {ts:Array TypeId} {ty t:TypeId} {a:AV} {x:Value} (ht:ts[0]? =some t) (ha:qA I M a x):Snd P I M w (lenOf hp (T.desc t) a) (Builtin.len_ ts ty #[x]):=by
 have run: ∀ {d:TypeDesc},T.desc t=d->d≠.invalid->_:=fun {d} hd hne=>zYJ (w:=w) hT ht hd hne ty x;unfold lenOf;split
 ·rename_i n u l hd;split
  ·rename_i hle;exact Snd.ok ⟨_,by rw [run hd (by simp)];rfl,rfl,zFE (zU hle)⟩
  ·exact Snd.none
 ·rename_i hd;obtain ⟨b,cap,e1,hle,_⟩:=ha;obtain rfl:=(List.cons.inj e1).1;exact Snd.mk hle fun _=>⟨_,by rw [run hd (by simp)];rfl,rfl,zFE hle⟩
 ·rename_i id s n hd;split
  ·rename_i e u xs hid;have:=hm.obp hid;obtain ⟨hl,this⟩:=this;have hx:y7 I M (.own id s n) x:=ha;simp only [y7] at hx;cases hβ:M[id]? with
   | none=>simp [hβ] at hx
   | some q =>
     cases q with
     | none =>
       simp only [hβ] at hx;obtain ⟨⟨a0,rfl⟩,rfl,rfl⟩:=hx;exact Snd.mk (by simp [Opt]) fun _=>⟨_,by rw [run hd (by simp)];rfl,rfl,zFE (by omega)⟩
     | some p =>
       simp only [hβ] at hx this;obtain ⟨a,cap,rfl,h1,h2,h3,h4⟩:=hx;have hn:n<=140737488355328:=by omega
       exact Snd.mk hn fun _=>⟨_,by rw [run hd (by simp)];rfl,rfl,zFE hn⟩
  ·exact Snd.none
 ·rename_i hd;obtain ⟨rfl,_⟩:=ha;exact Snd.ok ⟨_,by rw [run hd (by simp)];rfl,rfl,rfl⟩
 ·rename_i hd;obtain ⟨a0,rfl⟩:=ha;exact Snd.ok ⟨_,by rw [run hd (by simp)];rfl,rfl,rfl⟩
 ·rename_i hd;obtain ⟨rfl,_⟩:=ha;exact Snd.ok ⟨_,by rw [run hd (by simp)];rfl,rfl,rfl⟩
 ·rename_i k v m hd;obtain ⟨r,e1,hle,hn,hh⟩:=ha;obtain rfl:=(List.cons.inj e1).1;cases r with
  | none =>
    obtain rfl:=hn rfl;exact Snd.mk trivial fun hle=>⟨_,by rw [run hd (by simp)];rfl,rfl,zFE hle⟩
  | some b =>
    obtain ⟨es,clock,h1,h2,h3⟩:=hh b rfl;obtain ⟨o',h4,q2⟩:=hm.ag _ _ h1;obtain rfl:=q2.map;refine Snd.mk trivial fun hle=>⟨_,by rw [run hd (by simp)];simp [zLC,getObj,Sem.run,h4,goInt];rfl,?_,zFE hle⟩;rw [h2.1]
 ·rename_i id hd;split
  ·rename_i k v m hid;obtain ⟨hl,p,es,clock,h1,h2,h3,h4⟩:=hm.obp hid;obtain ⟨p',h1',rfl,_⟩:=ha;rw [h1] at h1';cases h1';refine Snd.mk trivial fun hl=>⟨_,by rw [run hd (by simp)];simp [zLC,getObj,Sem.run,h2,goInt];rfl,?_,zFE hl⟩;rw [h3.1]
  ·exact Snd.none
 ·exact Snd.none
end
end Go.Vm
namespace Go.Vm
open Go.RowKit
section
variable {P:Program} {I:Sig} {M:yN} {w:World} {T:Tab} {hp:zAG}
def zKZ (x:Option Value) (d n:Nat):Prop:=match x with
 | none=>n=d
 | some v=> ∃ k i,v= .int k i/\0<=i/\i.toNat=n
theorem zBY (hT:zAZ P T) {t u:TypeId} (hd:T.desc t= .slice u) (hu:T.sizeOf u≠0) {a:Option Addr} {len cap L H:Nat} {lo hi:Option Value}
 (hl:zKZ lo 0 L) (hh:zKZ hi len H) (h1:L<=H) (h2:H<=cap) :
 (Instr.sliceAt t (.slice a len cap) lo hi none).run P w= .ok (.slice (if cap=L then a else a.map (·.add (L*T.sizeOf u))) (H - L) (cap - L)) w:=by
 have hb:(Instr.sliceBounds true len cap lo hi none).run P w= .ok (L,H,cap) w:=by
  unfold Instr.sliceBounds;cases hi with
  | none =>
    obtain rfl:H=len:=hh;cases lo with
    | none=>obtain rfl:L=0:=hl;simp
    | some v=>obtain ⟨k,i,rfl,h0,rfl⟩:=hl;simp [Instr.sliceBound,asIntOf,h0,show i<=(H:Int) by omega]
  | some v =>
    obtain ⟨k,i,rfl,h0,rfl⟩:=hh;cases lo with
    | none=>obtain rfl:L=0:=hl;simp [Instr.sliceBound,asIntOf,h0,show i<=(cap:Int) by omega]
    | some v =>
      obtain ⟨k',j,rfl,h0',rfl⟩:=hl;have h3:j<=((i.toNat:Nat):Int):=by omega
      simp only [Instr.sliceBound,asIntOf,zN,qD,zL,show 0<=i/\i<=(cap:Int) from by omega,and_self,if_true,show 0<=j/\j<=((i.toNat:Nat):Int) from ⟨h0',h3⟩]
 unfold Instr.sliceAt;rw [zN,hT.desc hd (by simp),zL];show (Instr.slice t (.slice a len cap) lo hi none).run P w=_;unfold Instr.slice;rw [zN,hT.desc hd (by simp),zL];simp only [zN,hb,zL,zDF (w:=w) hT hu];rfl
theorem zZr {e:ETy} {xs:List e.T} {x:Value} (hx:y7 I M (.sl e xs) x): ∃ a cap,x= .slice a xs.length cap/\xs.length<=cap/\∀ L H:Nat,L<=H->H<=xs.length->
 y7 I M (.sl e ((xs.take H).drop L)) (.slice (if cap=L then a else a.map (·.add (L*e.size))) (H - L) (cap - L)):=by
 obtain ⟨a,cap,e1,hle,hcap,hr⟩:=hx;refine ⟨a,cap,(List.cons.inj e1).1,hcap,fun L H h1 h2=> ?_⟩;have hlen:((xs.take H).drop L).length=H - L:=by simp;omega
 refine ⟨_,_,by rw [hlen],by rw [hlen];omega,by rw [hlen];omega,fun hne=> ?_⟩
 have hpos:0<H - L:=by
  rcases Nat.eq_zero_or_pos (H - L) with h|h
  ·exact (hne (List.eq_nil_of_length_eq_zero (by omega))).elim
  ·exact h
 have hne':xs≠[]:=by rintro rfl;simp at h2;omega
 obtain ⟨b,o,rfl,hr'⟩:=hr hne';refine ⟨b,o+L*e.size,?_,fun i y hy=> ?_⟩
 ·rw [if_neg (by omega)];simp [Addr.add_none]
 ·have:xs[L+i]? =some y:=by
   rw [jU,yS] at hy;split at hy
   ·exact hy
   ·cases hy
  obtain ⟨d,h3,h4⟩:=hr' _ _ this;exact ⟨d,h3,by rw [zAP,<- Nat.add_mul];exact h4⟩
def z0T (I:Sig) (M:yN):Option AV->Option Value->Prop
 | none,none=>True
 | some a,some v=>qA I M a v
 | _,_=>False
theorem z0T.none' {v:Option Value} (h:z0T I M none v) (d:Nat):zKZ v d d:=by
 cases v with
 | none=>rfl
 | some _=>exact h.elim
theorem z0T.some' {v:Option Value} {k:IntKind} {i:Int} (h:z0T I M (some (.s (.int k i))) v) (h0:0<=i) (d:Nat):zKZ v d i.toNat:=by
 cases v with
 | none=>exact h.elim
 | some v=>obtain ⟨rfl,_⟩:=(show qA I M _ _ from h);exact ⟨k,i,rfl,h0,rfl⟩
theorem zVh {id s n:Nat} {x:Value} (hx:y7 I M (.own id s n) x) {sz:Nat} (hs: ∀ p,M[id]? =some (some p)->p.sz=sz): ∃ a cap,x= .slice a n cap/\n<=cap/\∀ L H:Nat,L<=H->H<=n->
 y7 I M (.own id (s+L) (H - L)) (.slice (if cap=L then a else a.map (·.add (L*sz))) (H - L) (cap - L)):=by
 simp only [y7] at hx;cases hβ:M[id]? with
 | none=>simp [hβ] at hx
 | some q =>
   cases q with
   | none =>
     simp only [hβ] at hx;obtain ⟨⟨a0,rfl⟩,rfl,rfl⟩:=hx;refine ⟨a0,0,rfl,zI _,fun L H h1 h2=> ?_⟩;have:L=0:=by omega
     have:H=0:=by omega
     subst L H;simp [y7,hβ]
   | some p =>
     simp only [hβ] at hx;have hs:=hs p hβ;obtain ⟨a,cap,rfl,h1,h2,h3,h4⟩:=hx;refine ⟨some a,cap,rfl,h1,fun L H g1 g2=> ?_⟩;simp only [y7,hβ]
     by_cases hc:cap=L
     ·exact ⟨a,cap - L,by simp [hc],by omega,.inl (by omega),by rw [show s+L+(cap - L)=s+cap by omega];exact h3,by omega⟩
     ·obtain rfl:a=_:=h2.resolve_left (by omega);exact ⟨_,cap - L,by simp [hc];rfl,by omega,.inr (by rw [Addr.add_none,<- hs,Nat.add_mul,zAP]),by rw [show s+L+(cap - L)=s+cap by omega];exact h3,by omega⟩
theorem zMl (hT:zAZ P T) (hm:Mem I M hp w) {t:TypeId} {a:AV} {lo hi:Option AV} {x:Value} {vlo vhi:Option Value} (ha:qA I M a x)
 (hlo:z0T I M lo vlo) (hhi:z0T I M hi vhi):Snd P I M w (zJi T t hp a lo hi) (Instr.sliceAt t x vlo vhi none):=by
 have nn: ∀ {u:TypeId},Nat.beq (T.sizeOf u) 0=false->T.sizeOf u≠0:=fun h e=>by rw [e] at h;cases h
 unfold zJi;split
 ·rename_i e xs u hd;split
  ·rename_i hb hz;have hu:=nn hz;have hb:=zC hb;obtain ⟨a,cap,rfl,hcap,hpart⟩:=zZr (I:=I) (M:=M) (show y7 I M (.sl e xs) x from ha);rw [<- hb] at hpart;split
   ·refine Snd.need fun _=>⟨_,zBY hT hd hu (L:=0) (H:=xs.length) (hlo.none' _) (hhi.none' _) (by omega) hcap,?_⟩;simpa using hpart 0 xs.length (by omega) (by omega)
   ·refine Snd.need fun ⟨h0,h1⟩=>⟨_,zBY hT hd hu (hlo.some' h0 _) (hhi.none' _) (by omega) hcap,hpart _ _ (by omega) (by omega)⟩
   ·refine Snd.need fun ⟨h0,h1⟩=>⟨_,zBY hT hd hu (hlo.none' _) (hhi.some' h0 _) (by omega) (by omega),hpart _ _ (by omega) (by omega)⟩
   ·refine Snd.need fun ⟨h0,h1,h2⟩=>⟨_,zBY hT hd hu (hlo.some' h0 _) (hhi.some' (by omega) _) (by omega) (by omega),hpart _ _ (by omega) (by omega)⟩
   ·exact Snd.none
  ·exact Snd.none
 ·rename_i id s n u hd;split
  ·rename_i e u' xs hid;split
   ·rename_i hb hz;have hu:=nn hz;have hb:=zC hb
    obtain ⟨a,cap,rfl,hcap,hpart⟩:=zVh (I:=I) (M:=M) (show y7 I M (.own id s n) x from ha) (sz:=T.sizeOf u) (fun p hp'=>by
     have:=(hm.obp hid).2;simp only [hp'] at this
     rw [this.1,hb])
    split
    ·refine Snd.need fun ⟨h0,h1⟩=>⟨_,zBY hT hd hu (hlo.some' h0 _) (hhi.none' _) (by omega) hcap,hpart _ _ (by omega) (by omega)⟩
    ·rename_i k j;refine Snd.need fun ⟨h0,h1⟩=>⟨_,zBY hT hd hu (L:=0) (hlo.none' _) (hhi.some' h0 _) (by omega) (by omega),?_⟩;exact hpart 0 j.toNat (jB _) (by omega)
    ·refine Snd.need fun ⟨h0,h1,h2⟩=>⟨_,zBY hT hd hu (hlo.some' h0 _) (hhi.some' (by omega) _) (by omega) (by omega),hpart _ _ (by omega) (by omega)⟩
    ·exact Snd.none
   ·exact Snd.none
  ·exact Snd.none
 ·rename_i id n u hd;split
  ·rename_i t' cs hid;split
   ·rename_i hlen hz;have hu:=nn hz;refine Snd.ok ?_;obtain ⟨p,hp',rfl,hL⟩:=(show y7 I M (.ptr id 0 0) x from ha);obtain ⟨p2,q0,q1,q2,q3,q4,c,q5,q6⟩:=hm.obp hid;rw [hp'] at q0;cases q0;have hvlo:vlo=none:=by cases vlo with|none=>rfl|some v=>exact (show False from hlo).elim
    have hvhi:vhi=none:=by cases vhi with|none=>rfl|some v=>exact (show False from hhi).elim
    subst hvlo;subst hvhi;have hlen:=zC hlen;refine ⟨_,?_,⟨p,hp',rfl,by rw [q2,hlen];exact zI _,hL⟩⟩;unfold Instr.sliceAt;rw [zN,hT.desc hd (by simp),zL];simp [Instr.sureAddr,Instr.sliceBounds,zDF (w:=w) hT hu,Addr.add_none]
   ·exact Snd.none
  ·exact Snd.none
 ·exact Snd.none
theorem zZC {k:IntKind} {a b:Int} {ts:Array TypeId} {ty:TypeId} :(Builtin.max_ ts ty #[.int k a,.int k b]).run P w= .ok (.int k (max a b)) w:=by
 have:(if b>a then b else a)=max a b:=by
  rw [Int.max_def];split<;>split<;>omega
 simp [Builtin.max_,Builtin.max2,this]
theorem zZK {k:IntKind} {a b:Int} {ts:Array TypeId} {ty:TypeId} :(Builtin.min_ ts ty #[.int k a,.int k b]).run P w= .ok (.int k (min a b)) w:=by
 have:(if b<a then b else a)=min a b:=by
  rw [Int.min_def];split<;>split<;>omega
 simp [Builtin.min_,Builtin.min2,this]
theorem z0z {k:IntKind} {a b:Int} (ha:InK k a) (hb:InK k b):InK k (max a b):=by
 rw [Int.max_def];split<;>assumption
theorem z1T {k:IntKind} {a b:Int} (ha:InK k a) (hb:InK k b):InK k (min a b):=by
 rw [Int.min_def];split<;>assumption
def z1j (I:Sig) (M:yN) (ev:Operand->AV) (ρ:Operand->Value) (op:Op):Prop:= ∀ x∈op.operands,qA I M (ev x) (ρ x)
def Op.simple:Op->Bool
 | .lookup _ _ _ _=>false
 | .buildSlice _ _ _=>false
 | .call c=>match c.callee with
   | .builtin _=>true
   | _=>false
 | _=>true
theorem zJD (hT:zAZ P T) (hO:zHB T) (hm:Mem I M hp w) {o:Oper} {ev:Operand->AV} {ρ:Operand->Value} (he:z1j I M ev ρ o.op) (hs:Op.simple o.op=true)
 {p q:Option Prop} {v:AV} (h:zAh T o.op ev hp=some (p,q,v)):Opt p/\(Opt q->∃ val,(execOp ρ o).run P w= .ok (.value val) w/\qA I M v val):=by
 obtain ⟨dst,op,type,pos,after,guard⟩:=o
 have lift: ∀ {s:Sem Value} {r:Option Res},Snd P I M w r s->r=some (p,q,v)->(∀ val,s.run P w= .ok val w->(execOp ρ ⟨dst,op,type,pos,after,guard⟩).run P w= .ok (.value val) w)->
  Opt p/\(Opt q->∃ val,(execOp ρ ⟨dst,op,type,pos,after,guard⟩).run P w= .ok (.value val) w/\qA I M v val):=by
  intro s r hs e hr;obtain ⟨h1,h2⟩:=hs p q v e;exact ⟨h1,fun hq=>let ⟨val,e1,e2⟩:=h2 hq;⟨val,hr val e1,e2⟩⟩
 cases op<;>simp only [zAh] at h<;>simp only [z1j,Op.operands] at he
 case move x=>exact lift (s:=pure (ρ x)) (Snd.pure ⟨ρ x,rfl,he x (by simp)⟩) h (fun val e=>by cases e;rfl)
 case assign x=>exact lift (s:=pure (ρ x)) (Snd.pure ⟨ρ x,rfl,he x (by simp)⟩) h (fun val e=>by cases e;rfl)
 case pick c a b =>
  refine lift (zNo (he c (by simp)) (he a (by simp)) (he b (by simp))) h (fun val e=> ?_);simp only [execOp,zN,bind_pure_comp,Sem.run_map] at e ⊢;cases h1:(asBool (ρ c)).run P w with
  | ok r w'=>simp only [h1,zL] at e ⊢;cases e;rfl
  | halt x w'=>simp [h1] at e
 case build t ps =>
  refine lift (zNO (vs:=ps.map fun (i,x)=>(i,ρ x)) hT ?_) h (fun val e=>by simp [execOp,e]);rw [Array.toList_map]
  have: ∀ l:List (Nat×Operand),(∀ x∈l,qA I M (ev x.2) (ρ x.2))->jZ (fun (p:Nat×AV) (q:Nat×Value)=>p.1=q.1/\qA I M p.2 q.2) (l.map fun p=>(p.1,ev p.2)) (l.map fun (i,x)=>(i,ρ x)):=by
   intro l
   induction l with
   | nil=>intro _;trivial
   | cons a l ih=>intro hl;exact ⟨⟨rfl,hl a (by simp)⟩,ih fun x hx=>hl x (by simp [hx])⟩
  exact this _ fun x hx=>he x.2 (by simp;exact ⟨x.1,by simpa using hx⟩)
 case load t x=>exact lift (zBs hT hO hm (he x (by simp))) h (fun val e=>by simp [execOp,e])
 case nilCheck x =>
  obtain ⟨h1,h2⟩:=zRw (he x (by simp)) h;refine ⟨h1,fun hq=> ?_⟩;obtain ⟨⟨ad,e1⟩,h3⟩:=h2 hq;exact ⟨ρ x,by simp [execOp,e1],h3⟩
 case binOp op t x y u=>exact lift (zUH (ox:=x) (oy:=y) hT (he x (by simp)) (he y (by simp))) h (fun val e=>by simp only [execOp];rw [zN,e];rfl)
 case unOp op t x=>exact lift (zSg (he x (by simp))) h (fun val e=>by simp [execOp,e])
 case convert s d x =>
  split at h
  ·rename_i k hd;exact lift (zOT hT hd (by simp) (he x (by simp))) h (fun val e=>by simp [execOp,e])
  ·cases h
 case slice t x lo hi mx =>
  cases mx with
  | some _=>cases h
  | none =>
    refine lift (zMl (vlo:=lo.map ρ) (vhi:=hi.map ρ) hT hm (he x (by simp)) ?_ ?_) h (fun val e=>by simp [execOp,e])
    ·cases lo with
     | none=>trivial
     | some y=>exact he y (by simp)
    ·cases hi with
     | none=>trivial
     | some y=>exact he y (by simp)
 case fieldAddr t x f=>exact lift (zHO hT (he x (by simp))) h (fun val e=>by simp [execOp,e])
 case field t x f=>exact lift (zM8 hT hO (he x (by simp))) h (fun val e=>by simp [execOp,e])
 case indexAddr t x i=>exact lift (zDi hT hm (he x (by simp)) (he i (by simp))) h (fun val e=>by simp [execOp,e])
 case index t x i=>exact lift (zNJ hT hO (he x (by simp)) (he i (by simp))) h (fun val e=>by simp [execOp,e])
 case lookup=>cases hs
 case buildSlice=>cases hs
 case extract x i=>exact lift (zQf (he x (by simp))) h (fun val e=>by simp [execOp,e])
 case call c =>
  obtain ⟨callee,args,ts⟩:=c;cases callee with
  | value f=>cases hs
  | invoke r m=>cases hs
  | builtin b =>
    have hexec: ∀ (val:Value) (s:Sem Value),(∀ cs,builtin b ts type cs (args.map ρ)=(do pure (.value (<- s))))->s.run P w= .ok val w->
     (execOp ρ ⟨dst,.call ⟨.builtin b,args,ts⟩,type,pos,after,guard⟩).run P w= .ok (.value val) w:=by
     intro val s hs e;simp only [execOp,resolve,zN,qD,zL,invoke];rw [hs,zN,e];rfl
    have two: ∀ {A B:AV},args.toList.map ev=[A,B]->∃ a b,args= #[a,b]/\A=ev a/\B=ev b/\qA I M (ev a) (ρ a)/\qA I M (ev b) (ρ b):=by
     intro A B hx
     match hargs:args.toList,hx with
     | [a,b],hx =>
       simp only [jV,List.map_nil,List.cons.injEq,and_true] at hx;obtain ⟨rfl,rfl⟩:=hx;have hA:args= #[a,b]:=by rw [<- Array.toArray_toList (xs:=args),hargs]
       subst hA;exact ⟨a,b,rfl,rfl,rfl,he a (by simp [Call.operands]),he b (by simp [Call.operands])⟩
     | [],hx=>simp at hx
     | [_],hx=>simp at hx
     | _::_::_::_,hx=>simp at hx
    replace h:zFU T hp (.builtin b) ts.toList (args.toList.map ev)=some (p,q,v):=h;unfold zFU at h;split at h
    ·rename_i x hb hx;cases hb;split at h
     ·rename_i t r hts
      match hargs:args.toList,hx with
      | [a],hx =>
        simp only [jV,List.map_nil,List.cons.injEq,and_true] at hx;subst hx;have hA:args= #[a]:=by rw [<- Array.toArray_toList (xs:=args),hargs]
        subst hA
        have ht:ts[0]? =some t:=by
         rw [<- zJ,hts];rfl
        exact lift (zON (ty:=type) hT hm ht (he a (by simp [Call.operands]))) h (fun val e=>hexec val _ (fun _=>rfl) (by simpa using e))
      | [],hx=>simp at hx
      | _::_::_,hx=>simp at hx
     ·cases h
    ·rename_i k a k' b' hb hx;cases hb;obtain ⟨oa,ob,rfl,e1,e2,h1,h2⟩:=two hx;rw [<- e1] at h1;rw [<- e2] at h2;obtain ⟨h1,h1'⟩:=h1;obtain ⟨h2,h2'⟩:=h2;split at h
     ·rename_i hk _;subst hk;refine lift (s:=Builtin.max_ ts type #[ρ oa,ρ ob]) (Snd.ok (a:= .int _ (max _ _)) ⟨_,by rw [h1,h2];exact zZC,rfl,z0z h1' h2'⟩) h (fun val e=>hexec val _ (fun _=>rfl) (by simpa using e))
     ·cases h
    ·rename_i k a k' b' hb hx;cases hb;obtain ⟨oa,ob,rfl,e1,e2,h1,h2⟩:=two hx;rw [<- e1] at h1;rw [<- e2] at h2;obtain ⟨h1,h1'⟩:=h1;obtain ⟨h2,h2'⟩:=h2;split at h
     ·rename_i hk _;subst hk;refine lift (s:=Builtin.min_ ts type #[ρ oa,ρ ob]) (Snd.ok (a:= .int _ (min _ _)) ⟨_,by rw [h1,h2];exact zZK,rfl,z1T h1' h2'⟩) h (fun val e=>hexec val _ (fun _=>rfl) (by simpa using e))
     ·cases h
    all_goals first|contradiction|cases h
 all_goals (cases h)
end
end Go.Vm
namespace Go.Vm
open Go.RowKit
structure Base where
 w:World
 sg:Sig
 dfs:List Deferred:=[]
def zQk (B:Base) (I:Sig):Prop:=B.sg.le I/\∀ b,b<B.w.heap.size->I b=B.sg b
structure GG (B:Base) (I:Sig) (M:yN) (st:St) (tmps:Array Value) (w:World):Prop where
 mem:Mem I M st.hp w
 env: ∀ t,qA I M (qQ st.env t) (tmps.getD t undef)
 len:M.length=st.next
 sep: ∀ id ob p,hget st.hp id=some ob->M[id]? =some (some p)->I p.b=none/\B.w.heap.size<=p.b/\
  ∀ id' ob' p',id'≠id->hget st.hp id'=some ob'->M[id']? =some (some p')->p'.b≠p.b
 bel:Below B.w.heap.size B.w w
 grew:zQk B I
def G (B:Base) (st:St) (a:Act) (w:World):Prop:=a.defers=B.dfs/\∃ I M,GG B I M st a.tmps w
section
variable {B:Base} {w:World} {I:Sig} {M:yN} {st:St} {tmps:Array Value}
theorem qA.undef:qA I M .undef undef:=⟨rfl,fun cs h=>by cases h⟩
theorem j8 (k:Nat) (v:AV) (r:Env) (t:Nat):qQ ((k,v)::r) t=if k=t then v else qQ r t:=by
 simp only [qQ]
 by_cases h:k=t
 ·subst h;simp [qF]
 ·rw [if_neg h]
  have:Nat.beq k t=false:=by
   cases e:Nat.beq k t with
   | false=>rfl
   | true=>exact (h (zC e)).elim
  rw [this]
theorem yB (k:Nat) (v:Ob) (r:zAG) (t:Nat):hget ((k,v)::r) t=if k=t then some v else hget r t:=by
 simp only [hget]
 by_cases h:k=t
 ·subst h;simp [qF]
 ·rw [if_neg h]
  have:Nat.beq k t=false:=by
   cases e:Nat.beq k t with
   | false=>rfl
   | true=>exact (h (zC e)).elim
  rw [this]
theorem zOq (tmps:Array Value) (d t:Nat) (v:Value) (h:d<tmps.size):(tmps.setIfInBounds d v).getD t undef=if d=t then v else tmps.getD t undef:=by
 simp only [zK,qR]
 by_cases e:d=t
 ·subst e;simp [h]
 ·simp [e]
def zBM (d:Option Tmp) (tmps:Array Value):Prop:= ∀ t,d=some t->t<tmps.size
def zHM (tmps:Array Value) (d:Option Tmp) (v:Value):Array Value:=match d with
 | some t=>tmps.setIfInBounds t v
 | none=>tmps
theorem GG.put (h:GG B I M st tmps w) {d:Option Tmp} (hd:zBM d tmps) {a:AV} {v:Value} (hv:qA I M a v):GG B I M (st.put d a) (zHM tmps d v) w:=by
 cases d with
 | none=>exact h
 | some t =>
   refine ⟨h.mem,fun t'=> ?_,h.len,h.sep,h.bel,h.grew⟩;show qA I M (qQ ((t,a)::st.env) t') ((tmps.setIfInBounds t v).getD t' Go.undef);rw [j8,zOq _ _ _ _ (hd t rfl)];split
   ·exact hv
   ·exact h.env t'
theorem zAt.keep {w':World} {id:Nat} {ob:Ob} (q:Option Bk) (h:zAt I M w id ob) (hk: ∀ p,M[id]? =some (some p)->w'.heap[p.b]? =w.heap[p.b]?) (hkn: ∀ b o,I b=some o->w'.heap[b]? =w.heap[b]?):zAt I (M++[q]) w' id ob:=by
 have key: ∀ {x:Option Bk},M[id]? =some x->(M++[q])[id]? =some x:=fun {x} e=>by
  rw [yF];exact e;exact (zG.1 e).1
 cases ob with
 | row e T xs =>
   obtain ⟨h0,h⟩:=h;refine ⟨h0,?_⟩;cases hβ:M[id]? with
   | none=>simp [hβ] at h
   | some x =>
     rw [key hβ];cases x with
     | none=>simpa [hβ] using h
     | some p =>
       simp only [hβ] at h ⊢;obtain ⟨h1,h2,h3,c,h4,h5⟩:=h;exact ⟨h1,h2,h3,c,by rw [hk p hβ];exact h4,h5⟩
 | flat T cs =>
   obtain ⟨p,h1,h2,h3,h4,h5,c,h6,h7⟩:=h;exact ⟨p,key h1,h2,h3,h4,h5,c,by rw [hk p h1];exact h6,h7.mono fun _ _=>y7.more q⟩
 | map k v m =>
   obtain ⟨h0,p,es,clock,h1,h2,h3⟩:=h;exact ⟨h0,p,es,clock,key h1,by rw [hk p h1];exact h2,h3⟩
 | gmap k e m =>
   obtain ⟨h0,p,es,clock,h1,h2,h3,h4,h5,h6⟩:=h;exact ⟨h0,p,es,clock,key h1,by rw [hk p h1];exact h2,h3,h4,h5.keep (fun _ _ e=>e) hkn,h6⟩
 | grow e T xss =>
   obtain ⟨h0,p,h1,h2,h3,h4,c,h5,h6,h7,h8⟩:=h;exact ⟨h0,p,key h1,h2,h3,h4,c,by rw [hk p h1];exact h5,h6,h7,h8.keep (fun _ _ e=>e) hkn⟩
 | fr X l=>exact ⟨key h.1,fun t=>(h.2 t).more q⟩
theorem zAt.same {w':World} {id:Nat} {ob:Ob} (h:zAt I M w id ob) (hk: ∀ p,M[id]? =some (some p)->w'.heap[p.b]? =w.heap[p.b]?) (hkn: ∀ b o,I b=some o->w'.heap[b]? =w.heap[b]?):zAt I M w' id ob:=by
 cases ob with
 | row e T xs =>
   obtain ⟨h0,h⟩:=h;refine ⟨h0,?_⟩;cases hβ:M[id]? with
   | none=>simp [hβ] at h
   | some x =>
     cases x with
     | none=>simpa [hβ] using h
     | some p =>
       simp only [hβ] at h ⊢;obtain ⟨h1,h2,h3,c,h4,h5⟩:=h;exact ⟨h1,h2,h3,c,by rw [hk p hβ];exact h4,h5⟩
 | flat T cs =>
   obtain ⟨p,h1,h2,h3,h4,h5,c,h6,h7⟩:=h;exact ⟨p,h1,h2,h3,h4,h5,c,by rw [hk p h1];exact h6,h7⟩
 | map k v m =>
   obtain ⟨h0,p,es,clock,h1,h2,h3⟩:=h;exact ⟨h0,p,es,clock,h1,by rw [hk p h1];exact h2,h3⟩
 | gmap k e m =>
   obtain ⟨h0,p,es,clock,h1,h2,h3,h4,h5,h6⟩:=h;exact ⟨h0,p,es,clock,h1,by rw [hk p h1];exact h2,h3,h4,h5.keep (fun _ _ e=>e) hkn,h6⟩
 | grow e T xss =>
   obtain ⟨h0,p,h1,h2,h3,h4,c,h5,h6,h7,h8⟩:=h;exact ⟨h0,p,h1,h2,h3,h4,c,by rw [hk p h1];exact h5,h6,h7,h8.keep (fun _ _ e=>e) hkn⟩
 | fr X l=>exact h
theorem zAt.sig {τ:Sig} {id:Nat} {ob:Ob} (hs:I.le τ) (hx: ∀ b o,I b=some o->τ b=some o) (h:zAt I M w id ob):zAt τ M w id ob:=by
 cases ob with
 | row e T xs =>
   obtain ⟨h0,h⟩:=h;refine ⟨h0,?_⟩;cases hβ:M[id]? with
   | none=>simp [hβ] at h
   | some x =>
     cases x with
     | none=>simpa [hβ] using h
     | some p =>
       simp only [hβ] at h ⊢;obtain ⟨h1,h2,h3,c,h4,h5,h6⟩:=h;exact ⟨h1,h2,h3,c,h4,h5,fun i x hx=>let ⟨d,e1,e2⟩:=h6 i x hx;⟨d,e1.mono hs,e2⟩⟩
 | flat T cs =>
   obtain ⟨p,h1,h2,h3,h4,h5,c,h6,h7⟩:=h;exact ⟨p,h1,h2,h3,h4,h5,c,h6,h7.mono fun _ _=>y7.mono hs⟩
 | map k v m =>
   obtain ⟨h0,p,es,clock,h1,h2,h3,h4⟩:=h;exact ⟨h0,p,es,clock,h1,h2,h3,fun i x hx=>let ⟨en,dk,dv,e1,e2,e3,e4,e5⟩:=h4 i x hx;⟨en,dk,dv,e1,e2.mono hs,e3,e4.mono hs,e5⟩⟩
 | gmap k e m =>
   obtain ⟨h0,p,es,clock,h1,h2,h3,h4,h5,h6⟩:=h;exact ⟨h0,p,es,clock,h1,h2,h3,fun i x hx=>let ⟨en,dk,dv,e1,e2,e3,e4,e5⟩:=h4 i x hx;⟨en,dk,dv,e1,e2.mono hs,e3,e4.mono hs,e5⟩,h5.keep hx (fun _ _ _=>rfl),h6⟩
 | grow e T xss =>
   obtain ⟨h0,p,h1,h2,h3,h4,c,h5,h6,h7,h8⟩:=h;exact ⟨h0,p,h1,h2,h3,h4,c,h5,h6,fun i x hx=>let ⟨v,e1,e2⟩:=h7 i x hx;⟨v,e1.mono hs,e2⟩,h8.keep hx fun _ _ _=>rfl⟩
 | fr X l=>exact ⟨h.1,fun t=>(h.2 t).mono hs⟩
theorem zAt.place {id:Nat} {ob:Ob} (h:zAt I M w id ob): ∃ x,M[id]? =some x:=by
 cases ob with
 | row e T xs =>
   cases hβ:M[id]? with
   | none=>simp [zAt,hβ] at h
   | some x=>exact ⟨x,rfl⟩
 | flat T cs=>obtain ⟨p,h1,_⟩:=h;exact ⟨_,h1⟩
 | map k v m=>obtain ⟨_,p,_,_,h1,_⟩:=h;exact ⟨_,h1⟩
 | gmap k e m=>obtain ⟨_,p,_,_,h1,_⟩:=h;exact ⟨_,h1⟩
 | grow e T xss=>obtain ⟨_,p,h1,_⟩:=h;exact ⟨_,h1⟩
 | fr X l=>exact ⟨_,h.1⟩
theorem zAt.lt {id:Nat} {ob:Ob} {p:Bk} (h:zAt I M w id ob) (hp:M[id]? =some (some p)):p.b<w.heap.size:=by
 have: ∃ o,w.heap[p.b]? =some o:=by
  cases ob with
  | row e T xs=>have:=h.2;simp only [hp] at this;obtain ⟨_,_,_,c,h4,_⟩:=this;exact ⟨_,h4⟩
  | flat T cs=>obtain ⟨p2,h1,_,_,_,_,c,h6,_⟩:=h;rw [hp] at h1;cases h1;exact ⟨_,h6⟩
  | map k v m=>obtain ⟨_,p2,es,clock,h1,h2,_⟩:=h;rw [hp] at h1;cases h1;exact ⟨_,h2⟩
  | gmap k e m=>obtain ⟨_,p2,es,clock,h1,h2,_⟩:=h;rw [hp] at h1;cases h1;exact ⟨_,h2⟩
  | grow e T xss=>obtain ⟨_,p2,h1,_,_,_,c,h5,_⟩:=h;rw [hp] at h1;cases h1;exact ⟨_,h5⟩
  | fr X l=>have h1:=h.1;rw [hp] at h1;cases h1
 obtain ⟨o,ho⟩:=this;exact (zR.1 ho).1
theorem GG.id_lt (h:GG B I M st tmps w) {id:Nat} {ob:Ob} (hi:hget st.hp id=some ob):id<st.next:=by
 obtain ⟨x,hx⟩:=(h.mem.ob _ _ hi).place;rw [<- h.len];exact (zG.1 hx).1
theorem GG.fresh (h:GG B I M st tmps w) {d:Option Tmp} (hd:zBM d tmps) {ob:Ob} {q:Option Bk} {a:AV} {v:Value} {w':World}
 (hw: ∀ k,k<w.heap.size->w'.heap[k]? =w.heap[k]?) (hb:Below B.w.heap.size w w') (hq: ∀ p,q=some p->p.b=w.heap.size)
 (ho:zAt I (M++[q]) w' st.next ob) (hv:qA I (M++[q]) a v) :
 GG B I (M++[q]) (({st with hp:=(st.next,ob)::st.hp,next:=st.next+1} :St).put d a) (zHM tmps d v) w':=by
 have hlast:(M++[q])[st.next]? =some q:=by rw [<- h.len];simp
 have hold: ∀ {id:Nat},id<st.next->(M++[q])[id]? =M[id]? :=fun hi=>by rw [yF];rw [h.len];exact hi
 have hsig: ∀ b o,I b=some o->b<w.heap.size:=fun b o e=>h.mem.ag.lt e
 have base:GG B I (M++[q]) {st with hp:=(st.next,ob)::st.hp,next:=st.next+1} tmps w':=by
  refine ⟨⟨fun b o e=> ?_,fun id ob' hi=> ?_⟩,fun t=>(h.env t).more q,by simp [h.len],fun id ob' p hi hp=> ?_,h.bel.trans hb,h.grew⟩
  ·rw [hw b (hsig b o e)];exact h.mem.ag _ _ e
  ·simp only [yB] at hi;split at hi
   ·rename_i e;subst e;cases hi;exact ho
   ·exact (h.mem.ob _ _ hi).keep q (fun p hp=>hw _ ((h.mem.ob _ _ hi).lt hp)) fun b o e=>hw b (hsig b o e)
  ·simp only [yB] at hi;split at hi
   ·rename_i e;subst e;rw [hlast] at hp;cases hp;have hpb:=hq p rfl;refine ⟨?_,by rw [hpb];exact h.bel.size,fun id' ob'' p' hne hi' hp'=> ?_⟩
    ·cases e:I p.b with
     | none=>rfl
     | some o=>have:=hsig _ _ e;omega
    ·simp only [yB] at hi';rw [if_neg (Ne.symm hne)] at hi';have hlt:=h.id_lt hi';rw [hold hlt] at hp';have:=(h.mem.ob _ _ hi').lt hp';omega
   ·rename_i hne;have hlt:=h.id_lt hi;rw [hold hlt] at hp;obtain ⟨s1,s2,s3⟩:=h.sep _ _ _ hi hp;refine ⟨s1,s2,fun id' ob'' p' hne' hi' hp'=> ?_⟩;simp only [yB] at hi';split at hi'
    ·rename_i e;subst e;rw [hlast] at hp';cases hp';have:=hq p' rfl;have:=(h.mem.ob _ _ hi).lt hp;omega
    ·have hlt':=h.id_lt hi';rw [hold hlt'] at hp';exact s3 _ _ _ hne' hi' hp'
 exact base.put hd hv
theorem GG.turn (h:GG B I M st tmps w) {id:Nat} {ob ob':Ob} {p:Bk} (hi:hget st.hp id=some ob) (hp:M[id]? =some (some p)) {w':World}
 (hw: ∀ k,k≠p.b->w'.heap[k]? =w.heap[k]?) (hb:Below B.w.heap.size w w') (ho:zAt I M w' id ob'):GG B I M {st with hp:=zBZ st.hp id ob'} tmps w':=by
 have hget_set: ∀ {l:zAG} {i:Nat},(∃ o,hget l id=some o)->hget (zBZ l id ob') i=if i=id then some ob' else hget l i:=by
  intro l i
  induction l with
  | nil=>intro ⟨o,e⟩;cases e
  | cons x r ih =>
    obtain ⟨k,v⟩:=x;intro ⟨o,e⟩;simp only [zBZ];cases hk:Nat.beq k id with
    | true =>
      have:=zC hk;subst this;simp only [yB]
      by_cases e:i=k
      ·subst e;simp
      ·rw [if_neg (Ne.symm e),if_neg (Ne.symm e),if_neg e]
    | false =>
      have hne:k≠id:=by intro e;subst e;simp [qF] at hk
      simp only [yB] at e ⊢;rw [if_neg hne] at e;rw [ih ⟨o,e⟩]
      by_cases e1:k=i
      ·subst e1;simp [hne]
      ·simp [e1]
 obtain ⟨s1,s2,s3⟩:=h.sep _ _ _ hi hp;refine ⟨⟨fun b o e=> ?_,fun id' ob'' hi'=> ?_⟩,h.env,h.len,fun id' ob'' p' hi' hp'=> ?_,h.bel.trans hb,h.grew⟩
 ·rw [hw b (by rintro rfl;rw [s1] at e;cases e)];exact h.mem.ag _ _ e
 ·simp only [hget_set ⟨_,hi⟩] at hi';split at hi'
  ·rename_i e;subst e;cases hi';exact ho
  ·rename_i hne;exact (h.mem.ob _ _ hi').same (fun q hq=>hw _ (s3 _ _ _ hne hi' hq)) fun b o e=>hw b (by rintro rfl;rw [s1] at e;cases e)
 ·simp only [hget_set ⟨_,hi⟩] at hi';split at hi'
  ·rename_i e;subst e;rw [hp] at hp';cases hp';refine ⟨s1,s2,fun id2 ob2 p2 hne hi2 hp2=> ?_⟩;simp only [hget_set ⟨_,hi⟩] at hi2;rw [if_neg hne] at hi2;exact s3 _ _ _ hne hi2 hp2
  ·rename_i hne;obtain ⟨t1,t2,t3⟩:=h.sep _ _ _ hi' hp';refine ⟨t1,t2,fun id2 ob2 p2 hne2 hi2 hp2=> ?_⟩;simp only [hget_set ⟨_,hi⟩] at hi2;split at hi2
   ·rename_i e;subst e;rw [hp] at hp2;cases hp2;exact fun e=>(s3 _ _ _ hne hi' hp') e.symm
   ·exact t3 _ _ _ hne2 hi2 hp2
end
end Go.Vm
