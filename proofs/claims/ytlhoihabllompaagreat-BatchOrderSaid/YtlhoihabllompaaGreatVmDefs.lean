/- An abstract machine over the model's code: abstract values, an abstract memory, and an evaluator that turns a function's code into a proposition. Definitions alone. -/
import Derived.Control
import Derived.Calls
import Derived.Orders
set_option linter.unusedSimpArgs false
set_option linter.unusedVariables false
set_option maxHeartbeats 8000000
set_option maxRecDepth 100000
namespace Go.Vm
theorem zC:∀ (a b : Bool), ((a && b) = true) = (a = true /\ b = true):=@Bool.and_eq_true
theorem zA:∀ {a b : Prop}, a -> b -> a /\ b:=@And.intro
theorem zD:∀ (n : Nat), 0 + n = n:=@Nat.zero_add
theorem zF.{u_1}:∀ {α : Type u_1} {a b : α}, a ∈ [b] ↔ a = b:=@List.mem_singleton
theorem zG.{u_1}:∀ {α : Type u_1} {l : List α} {i : Nat} (_ : i < List.length l), l[i]? = some l[i]:=@List.getElem?_eq_getElem
theorem zH:∀ {n m : Nat}, Nat.beq n m = true -> n = m:=@Nat.eq_of_beq_eq_true
theorem zI:∀ (n : Nat), n <= n:=@Nat.le_refl
theorem zJ.{u_1}:∀ {α : Type u_1} {p : α -> Bool} {l : List α}, List.all l p = true ↔ ∀ (x : α), x ∈ l -> p x = true:=@List.all_eq_true
theorem zK.{u_1}:∀ {α : Type u_1} {i : Nat} {a : α} {l : List α}, l[i]? = some a ↔ ∃ (h : i < List.length l), l[i] = a:=@List.getElem?_eq_some_iff
theorem zL.{u_1}:∀ {α : Type u_1} {xs : Array α} {i : Nat} {d : α}, Array.getD xs i d = Option.getD xs[i]? d:=@Array.getD_eq_getD_getElem?
theorem zM.{u_1}:∀ {α : Type u_1} {xs : Array α} {i : Nat}, (Array.toList xs)[i]? = xs[i]?:=@Array.getElem?_toList
theorem zN.{u_1}:∀ {α : Type u_1} {as bs : List α}, List.length (as ++ bs) = List.length as + List.length bs:=@List.length_append
theorem zO:True:=@True.intro
theorem zP:∀ {p : Prop} [Decidable p], (decide p = true) = p:=@decide_eq_true_eq
theorem zQ.{u_1}:∀ {α : Type u_1} (y : α) {a : α} {l : List α}, a ∈ l -> a ∈ y :: l:=@List.mem_cons_of_mem
theorem zR.{u_1}:∀ {α : Type u_1} {l : List α} {i : Nat} {a : α}, List.getD l i a = Option.getD l[i]? a:=@List.getD_eq_getElem?_getD
theorem zT.{u_1}:∀ {α : Type u_1} {b : α} {l : List α} {a : α}, a ∈ b :: l ↔ a = b \/ a ∈ l:=@List.mem_cons
theorem zU:∀ {n m : Nat}, Nat.ble n m = true -> n <= m:=@Nat.le_of_ble_eq_true
theorem zV:∀ {m n : Nat}, m ∈ List.range n ↔ m < n:=@List.mem_range
theorem zW.{u_1}:∀ {α : Type u_1} {i : Nat} {b : α} {xs : Array α}, xs[i]? = some b ↔ ∃ (h : i < Array.size xs), xs[i] = b:=@Array.getElem?_eq_some_iff
theorem zY.{u_1}:∀ {α : Type u_1} {a : α} {l : List α}, a ∈ a :: l:=@List.mem_cons_self
theorem yA.{u_1}:∀ {α : Type u_1} {a : α} {as : List α}, List.length (a :: as) = List.length as + 1:=rfl
theorem zB.{u_1}:∀ {α : Sort u_1} {p : α -> Prop} (w : α), p w -> Exists p:=@Exists.intro
theorem yB.{u_1}:∀ {α : Type u_1} {i : Nat} {l : List α} (h : i < List.length l), List.take (i + 1) l = List.take i l ++ [l[i]]:=@List.take_succ_eq_append_getElem
theorem yC.{u_1,u_2}:∀ {α : Type u_1} {β : Type u_2} {b : β} {f : α -> β} {l : List α}, b ∈ List.map f l ↔ ∃ (a : α), a ∈ l /\ f a = b:=@List.mem_map
theorem yD.{u_1}:∀ {α : Type u_1} {a : α} {s t : List α}, a ∈ s ++ t ↔ a ∈ s \/ a ∈ t:=@List.mem_append
theorem yF:∀ {p : Prop}, (¬p -> False) -> p:=@Classical.byContradiction
theorem yG.{u_1}:∀ {α : Type u_1} {a : α} {l : List α}, a ∈ l ↔ ∃ (i : Nat), ∃ (h : i < List.length l), l[i] = a:=@List.mem_iff_getElem
theorem yM:∀ {p : Prop} {x : Decidable p}, decide p = false ↔ ¬p:=@decide_eq_false_iff_not
theorem yQ.{u_1}:∀ {α : Type u_1} {l : List α} {n : Nat} (h : n < List.length l), l[n] ∈ l:=@List.getElem_mem
theorem yV.{u_1,u_2}:∀ {α : Type u_1} {β : Type u_2} {as : List α} (f : α -> β), List.length (List.map f as) = List.length as:=@List.length_map
theorem qZ.{u_1}:∀ {α : Type u_1} {i : Nat} {l : List α}, List.length (List.take i l) = min i (List.length l):=@List.length_take
theorem jE.{u_1}:∀ {α : Type u_1} (i : Nat) (l : List α), List.take i l ++ List.drop i l = l:=@List.take_append_drop
theorem zAC:∀ {a : Int}, 0 <= a -> ↑(Int.toNat a) = a:=@Int.toNat_of_nonneg
theorem zAD:∀ {n : Nat}, List.length (List.range n) = n:=@List.length_range
inductive ETy where
 | int (k:IntKind)
 | bool
 | arr2
 | arr3
 | pair (a b:ETy)
 | sl (e:ETy)
 | mp (k v:ETy)
 | pt (e:ETy)
 | unit
 | fnc
 deriving DecidableEq
@[reducible] def ETy.T:ETy->Type
  | .int _=>Int
  | .bool=>Bool
  | .arr2=>Int×Int
  | .arr3=>Int×Int×Int
  | .pair a b=>a.T×b.T
  | .sl e=>List e.T
  | .mp k v=>List (k.T×v.T)
  | .pt e=>Option e.T
  | .unit=>Unit
  | .fnc=>Option Nat
def ETy.dflt:(e:ETy)->e.T
 | .int _=>(0:Int)
 | .bool=>false
 | .arr2=>((0:Int),(0:Int))
 | .arr3=>((0:Int),(0:Int),(0:Int))
 | .pair a b=>(a.dflt,b.dflt)
 | .sl _=>[]
 | .mp _ _=>[]
 | .pt _=>none
 | .unit=>()
 | .fnc=>none
def ETy.size:ETy->Nat
 | .int _=>1
 | .bool=>1
 | .arr2=>2
 | .arr3=>3
 | .pair a b=>a.size+b.size
 | .sl _=>1
 | .mp _ _=>1
 | .pt _=>1
 | .unit=>0
 | .fnc=>1
structure PtV where
 e:ETy
 x:e.T
inductive AS where
 | int (k:IntKind) (n:Int)
 | bool (b:Bool)
 | val (v:Value)
 | sl (e:ETy) (xs:List e.T)
 | mp (k v:ETy) (m:List (k.T×v.T))
 | pt (e:ETy) (o:Option e.T)
 | ip (e:ETy) (x:e.T) (k:Nat)
 | own (id start len:Nat)
 | ipi (e:ETy) (x:e.T) (k:Nat)
 | ptr (id i k:Nat)
 | pti (id i k:Nat)
 | omp (id:Nat)
 | arr (id n:Nat)
 | clo (f:Nat) (ps:List PtV)
 | nq (neg:Bool) (e:ETy) (xs:List e.T)
 | junk
inductive AV where
 | s (a:AS)
 | agg (l:List AS)
 | tup (l:List AV)
@[reducible] def AV.junk:AV:= .s .junk
@[reducible] def AV.undef:AV:= .s (.val (.tuple #[]))
def fnV:Option Nat->Value
 | some f=> .func (.func f) #[] #[]
 | none=> .nilFunc
def ETy.cells:(e:ETy)->e.T->List AS
 | .int k,n=>[.int k n]
 | .bool,b=>[.bool b]
 | .arr2,x=>[.int .i64 x.1,.int .i64 x.2]
 | .arr3,x=>[.int .i64 x.1,.int .i64 x.2.1,.int .i64 x.2.2]
 | .pair a b,x=>a.cells x.1++b.cells x.2
 | .sl e,xs=>[.sl e xs]
 | .mp k v,m=>[.mp k v m]
 | .pt e,o=>[.pt e o]
 | .unit,_=>[]
 | .fnc,o=>[.val (fnV o)]
def zXl (k:IntKind):List AS->Option Int
 | [.int k' n]=>if k=k' then some n else none
 | _=>none
def zQJ:List AS->Option Bool
 | [.bool b]=>some b
 | _=>none
def z80:List AS->Option (Int×Int)
 | [.int .i64 a,.int .i64 b]=>some (a,b)
 | _=>none
def z8f:List AS->Option (Int×Int×Int)
 | [.int .i64 a,.int .i64 b,.int .i64 c]=>some (a,b,c)
 | _=>none
def z5J (e:ETy):List AS->Option (List e.T)
 | [.sl e' xs]=>if h:e'=e then some (h▸xs) else none
 | [.val (.slice none 0 0)]=>some []
 | _=>none
def z3P (k v:ETy):List AS->Option (List (k.T×v.T))
 | [.mp k' v' m]=>if h:k'=k then (if h':v'=v then some (h▸h'▸m) else none) else none
 | _=>none
def z31 (e:ETy):List AS->Option (Option e.T)
 | [.pt e' x]=>if h:e'=e then some (h▸x) else none
 | [.val (.pointer none)]=>some none
 | _=>none
def zPV:List AS->Option Unit
 | []=>some ()
 | _=>none
def zYs:List AS->Option (Option Nat)
 | [.val (.func (.func f) ⟨[]⟩ ⟨[]⟩)]=>some (some f)
 | [.val .nilFunc]=>some none
 | _=>none
def ETy.dec:(e:ETy)->List AS->Option e.T
 | .int k,l=>zXl k l
 | .bool,l=>zQJ l
 | .arr2,l=>z80 l
 | .arr3,l=>z8f l
 | .pair a b,l=>match a.dec (l.take a.size),b.dec (l.drop a.size) with
   | some x,some y=>some (x,y)
   | _,_=>none
 | .sl e,l=>z5J e l
 | .mp k v,l=>z3P k v l
 | .pt e,l=>z31 e l
 | .unit,l=>zPV l
 | .fnc,l=>zYs l
inductive Ob where
 | row (e:ETy) (T:TypeId) (xs:List e.T)
 | flat (T:TypeId) (cells:List AS)
 | map (k v:ETy) (m:List (k.T×v.T))
 | gmap (k e:ETy) (m:List (k.T×List e.T))
 | grow (e:ETy) (T:TypeId) (xss:List (List e.T))
 | fr (X:Array Value) (l:List (Nat×AV))
abbrev Env:=List (Nat×AV)
abbrev jJ:=List (Nat×Ob)
structure St where
 env:Env
 hp:jJ
 next:Nat
def yZ:Env->Nat->AV
 | [],_=> .junk
 | (k,v)::r,t=>match Nat.beq k t with|true=>v|false=>yZ r t
def hget:jJ->Nat->Option Ob
 | [],_=>none
 | (k,v)::r,t=>match Nat.beq k t with|true=>some v|false=>hget r t
def AS.ofVal:Value->AS
 | .int k n=> .int k n
 | .bool b=> .bool b
 | v=> .val v
structure TI where
 desc:TypeDesc
 size:Nat
 bytes:Nat
 zl:List Value
 ety:Option ETy
abbrev Res:=Option Prop×Option Prop×AV
abbrev zKQ:=Option Prop×Option Prop×AV×List Ob
inductive FrE where
 | res (c:List AV->Option zKQ)
 | run (h:List AV->St->(AV->St->Prop)->Prop)
structure Tab where
 ty:List (Nat×TI)
 fn:List (Nat×(List AV->Option Res))
 fr:List (Nat×FrE)
def zFP {α:Type} :List (Nat×α)->Nat->Option α
 | [],_=>none
 | (k,v)::r,t=>match Nat.beq k t with|true=>some v|false=>zFP r t
def Tab.info (T:Tab) (t:TypeId):Option TI:=zFP T.ty t
def Tab.has (T:Tab) (t:TypeId):Bool:=match zFP T.ty t with|some _=>true|none=>false
def Tab.sizeOf (T:Tab) (t:TypeId):Nat:=match zFP T.ty t with|some i=>i.size|none=>0
def Tab.desc (T:Tab) (t:TypeId):TypeDesc:=match zFP T.ty t with|some i=>i.desc|none=> .invalid
def ETy.zeroVals:ETy->List Value
 | .int k=>[.int k 0]
 | .bool=>[.bool false]
 | .arr2=>[.int .i64 0,.int .i64 0]
 | .arr3=>[.int .i64 0,.int .i64 0,.int .i64 0]
 | .pair a b=>a.zeroVals++b.zeroVals
 | .sl _=>[.slice none 0 0]
 | .mp _ _=>[.map none]
 | .pt _=>[.pointer none]
 | .unit=>[]
 | .fnc=>[.nilFunc]
def zHS:Value->Bool
 | .agg _=>false
 | .int k n=>k.wrap n==n
 | _=>true
def TI.zero (i:TI):List AS:=i.zl.map AS.ofVal
def zAE:TypeDesc->Bool
 | .struct _=>true
 | .array _ _=>true
 | _=>false
def AV.ofVal:Value->AV
 | .agg cs=> .agg (cs.toList.map AS.ofVal)
 | v=> .s (AS.ofVal v)
def y7 (env:Env):Operand->AV
 | .tmp t=>yZ env t
 | .const v=>AV.ofVal v
 | .global _=> .junk
 | .func f=> .s (.val (.func (.func f) #[] #[]))
def AV.flat:AV->Option (List AS)
 | .s .junk=>none
 | .s a=>some [a]
 | .agg l=>some l
 | .tup _=>none
def zCZ:List AS->Option (List Int)
 | []=>some []
 | .int .i64 n::r=>match zCZ r with|some l=>some (n::l)|none=>none
 | _=>none
def z7Q (k:IntKind):List AS->Option (List Int)
 | []=>some []
 | .int k' n::r=>match decide (k'=k),z7Q k r with
   | true,some l=>some (n::l)
   | _,_=>none
 | _=>none
def zEc (d:TypeDesc) (l:List AS):Option (IntKind×List Int) :=
 match d with
 | .int k=>match z7Q k l with
   | some ns=>some (k,ns)
   | none=>none
 | _=>none
def part (agg:Bool) (l:List AS) (k m:Nat):AV :=
 match agg with
 | true=> .agg ((l.drop k).take m)
 | false=> .s (l.getD k .junk)
def Int.blt':Int->Bool
 | .ofNat _=>false
 | .negSucc _=>true
def yP (n:Int):Prop:= -9223372036854775808<=n/\n<=9223372036854775807
def arith (k:IntKind) (n:Int):Res :=
 match k with
 | .i64=>(none,some (yP n),.s (.int .i64 n))
 | k=>(none,none,.s (.int k (k.wrap n)))
def fitting (a b:Nat) (v:AV):Option Res:=match Nat.ble a b with|true=>some (none,none,v)|false=>none
def ok (v:AS):Option Res:=some (none,none,.s v)
def need (p:Prop) (v:AS):Option Res:=some (none,some p,.s v)
def zIs:List AS->List AS->Option Bool
 | [],[]=>some true
 | .int k a::l,.int k' b::m=>match decEq k k',zIs l m with
   | .isTrue _,some r=>some ((a==b)&&r)
   | _,_=>none
 | _,_=>none
def zTf (op:BinOp) (k:IntKind) (a b:Int):Option Res :=
 match op with
 | .add=>some (arith k (a+b))
 | .sub=>some (arith k (a - b))
 | .mul=>some (arith k (a*b))
 | .quo=>match arith k (a.tdiv b) with
   | (p,some q,v)=>some (p,some (b≠0/\q),v)
   | (p,none,v)=>some (p,some (b≠0),v)
 | .rem=>some (none,some (b≠0),.s (.int k (a.tmod b)))
 | .eql=>ok (.bool (a==b))
 | .neq=>ok (.bool (a != b))
 | .lss=>ok (.bool (decide (a<b)))
 | .leq=>ok (.bool (decide (a<=b)))
 | .gtr=>ok (.bool (decide (a>b)))
 | .geq=>ok (.bool (decide (a>=b)))
 | _=>none
def zGe (op:BinOp) (r:Bool):Option Res :=
 match op with
 | .eql=>ok (.bool r)
 | .neq=>ok (.bool (!r))
 | _=>none
def z0C (op:BinOp) (e:ETy) (xs:List e.T):Option Res :=
 match op with
 | .eql=>ok (.nq false e xs)
 | .neq=>ok (.nq true e xs)
 | _=>none
def zY7 (op:BinOp) (d:TypeDesc) (a b:AS):Option Res :=
 match d,a,b with
 | .pointer _,.pt _ o,.val (.pointer none)=>zGe op o.isNone
 | .pointer _,.val (.pointer none),.val (.pointer none)=>zGe op true
 | .pointer _,.ip _ _ _,.val (.pointer none)=>zGe op false
 | .pointer _,.ptr _ _ _,.val (.pointer none)=>zGe op false
 | .map _ _,.omp _,.val (.map none)=>zGe op false
 | .map _ _,.val (.map none),.val (.map none)=>zGe op true
 | .slice _,.sl e xs,.val (.slice none 0 0)=>z0C op e xs
 | .slice _,.own _ _ n,.val (.slice none 0 0)=>z0C op .unit (List.replicate n ())
 | .slice _,.val (.slice none 0 0),.val (.slice none 0 0)=>zGe op true
 | _,_,_=>none
def zCI (T:Tab):Nat->List Field->Bool
 | _,[]=>true
 | i,f::r=>match T.desc f.type with
   | .int _=>Nat.beq (T.sizeOf f.type) 1&&Nat.beq f.offset i&&zCI T (i+1) r
   | _=>false
def bin (T:Tab) (t:TypeId) (op:BinOp) (x y:AV):Option Res :=
 match x,y with
 | .s (.int k a),.s (.int k' b)=>match decEq k k' with
   | .isTrue _=>zTf op k a b
   | .isFalse _=>none
 | .s (.bool a),.s (.bool b)=>match T.desc t with
   | .bool=>zGe op (a==b)
   | _=>none
 | .agg l,.agg m=>match T.desc t with
   | .array n u=>match T.desc u,Nat.beq (T.sizeOf u) 1,Nat.beq l.length n,zIs l m with
     | .int _,true,true,some r=>zGe op r
     | _,_,_,_=>none
   | .struct fs=>match zCI T 0 fs.toList,Nat.beq l.length fs.toList.length,zIs l m with
     | true,true,some r=>zGe op r
     | _,_,_=>none
   | _=>none
 | .s a,.s b=>zY7 op (T.desc t) a b
 | _,_=>none
def Ob.pln:Ob->Ob
 | .gmap k e m=> .map k (.sl e) m
 | .grow e T xss=> .row (.sl e) T xss
 | o=>o
def hgp (hp:jJ) (id:Nat):Option Ob:=match hget hp id with
 | some o=>some o.pln
 | none=>none
def view (hp:jJ):AS->AS
 | .own id s n=>match hgp hp id with
   | some (.row e _ xs)=> .sl e ((xs.drop s).take n)
   | _=> .junk
 | .ptr id i 0=>match hgp hp id with
   | some (.row e _ xs)=> .ip e (xs.getD i e.dflt) 0
   | _=> .junk
 | .ptr _ _ _=> .junk
 | .pti _ _ _=> .junk
 | .arr _ _=> .junk
 | .omp id=>match hgp hp id with
   | some (.map k v m)=> .mp k v m
   | _=> .junk
 | a=>a
def AV.view (hp:jJ):AV->AV
 | .s a=> .s (Vm.view hp a)
 | .agg l=> .agg (l.map (Vm.view hp))
 | .tup _=> .junk
def viewT (T:Tab) (hp:jJ):AS->AS
 | .ptr id 0 0=>match hgp hp id with
   | some (.flat t cs)=>match T.info t with
     | some ti=>match ti.ety with
       | some e=>match e.dec (cs.map (view hp)) with
         | some x=> .pt e (some x)
         | none=> .junk
       | none=> .junk
     | none=> .junk
   | _=>view hp (.ptr id 0 0)
 | .arr id n=>match hgp hp id with
   | some (.flat _ cs)=>match zCZ cs,Nat.beq cs.length n,Nat.ble n 1000 with
     | some ns,true,true=> .sl (.int .i64) ns
     | _,_,_=> .junk
   | _=> .junk
 | a=>view hp a
def AV.viewT (T:Tab) (hp:jJ):AV->AV
 | .s a=> .s (Vm.viewT T hp a)
 | .agg l=> .agg (l.map (Vm.viewT T hp))
 | .tup _=> .junk
def ETy.decT:(e:ETy)->DecidableEq e.T
 | .int _=>(inferInstance:DecidableEq Int)
 | .bool=>(inferInstance:DecidableEq Bool)
 | .arr2=>(inferInstance:DecidableEq (Int×Int))
 | .arr3=>(inferInstance:DecidableEq (Int×Int×Int))
 | .pair a b=> @instDecidableEqProd _ _ a.decT b.decT
 | .sl e=> @instDecidableEqList _ e.decT
 | .mp k v=> @instDecidableEqList _ (@instDecidableEqProd _ _ k.decT v.decT)
 | .pt e=>letI:=e.decT;(inferInstance:DecidableEq (Option e.T))
 | .unit=>(inferInstance:DecidableEq Unit)
 | .fnc=>(inferInstance:DecidableEq (Option Nat))
def jS (k:ETy) {β:Type} :List (k.T×β)->k.T->Option β
 | [],_=>none
 | (x,y)::r,q=>match k.decT x q with
   | .isTrue _=>some y
   | .isFalse _=>jS k r q
def zAB (k:ETy) {β:Type} :List (k.T×β)->k.T->β->List (k.T×β)
 | [],q,v=>[(q,v)]
 | (x,y)::r,q,v=>match k.decT x q with
   | .isTrue _=>(x,v)::r
   | .isFalse _=>(x,y)::zAB k r q v
def ETy.isAgg:ETy->Bool
 | .arr2=>true
 | .arr3=>true
 | .pair _ _=>true
 | .unit=>true
 | _=>false
def AV.isAgg:AV->Bool
 | .agg _=>true
 | _=>false
def zOm (o:Option ETy) (e:ETy):Bool :=
 match o with
 | some e'=>decide (e'=e)
 | none=>false
structure z9f where
 k:ETy
 v:ETy
 m:List (k.T×v.T)
def zS9 (hp:jJ):AS->Option z9f
 | .mp k v m=>some ⟨k,v,m⟩
 | .omp id=>match hgp hp id with
   | some (.map k v m)=>some ⟨k,v,m⟩
   | _=>none
 | _=>none
def AS.clear:AS->Bool
 | .own _ _ _=>false
 | .ptr _ _ _=>false
 | .pti _ _ _=>false
 | .omp _=>false
 | .arr _ _=>false
 | .junk=>false
 | _=>true
def AV.clear:AV->Bool
 | .s a=>a.clear
 | .agg l=>l.all AS.clear
 | .tup _=>false
def AS.plain:AS->Bool
 | .int _ _=>true
 | .bool _=>true
 | _=>false
def AV.plain:AV->Bool
 | .s a=>a.plain
 | .agg l=>l.all AS.plain
 | .tup l=>l.all fun v=>match v with
   | .s a=>a.plain
   | .agg l=>l.all AS.plain
   | .tup _=>false
def lenOf (hp:jJ) (desc:TypeDesc) (a:AV):Option Res :=
 match desc,a with
 | .array n _,.agg _=>match Nat.ble n 140737488355328 with
   | true=>ok (.int .i64 n)
   | false=>none
 | .slice _,.s (.sl _ xs)=>some (some (xs.length<=140737488355328),none,.s (.int .i64 xs.length))
 | .slice _,.s (.own id _ n)=>match hgp hp id with
   | some (.row _ _ _)=>some (some (n<=140737488355328),none,.s (.int .i64 n))
   | _=>none
 | .slice _,.s (.val (.slice none 0 0))=>ok (.int .i64 0)
 | .map _ _,.s (.val (.map none))=>ok (.int .i64 0)
 | .map _ _,.s (.mp _ _ m)=>some (none,some (m.length<=140737488355328),.s (.int .i64 m.length))
 | .map _ _,.s (.omp id)=>match hgp hp id with
   | some (.map _ _ m)=>some (none,some (m.length<=140737488355328),.s (.int .i64 m.length))
   | _=>none
 | _,_=>none
def zJI (d:TypeDesc) (f:Nat):Option (Nat×TypeId) :=
 match d with
 | .struct fs=>match fs.toList[f]? with|some x=>some (x.offset,x.type)|none=>none
 | _=>none
def zAZ (l:List AS) (k:Nat) (m:List AS):List AS:=l.take k++m++l.drop (k+m.length)
def lay (place:Nat->Option (Nat×Nat)):List AS->List (Nat×AV)->Option (List AS)
 | l,[]=>some l
 | l,(i,v)::r=>match v.flat,place i with
   | some m,some (off,size)=>match Nat.beq m.length size,Nat.ble (off+m.length) l.length with
     | true,true=>lay place (zAZ l off m) r
     | _,_=>none
   | _,_=>none
def z56 (c a b:AV):Option Res :=
 match c with
 | .s (.bool true)=>some (none,none,a)
 | .s (.bool false)=>some (none,none,b)
 | _=>none
def cUn (op:UnOp) (x:AV):Option Res :=
 match op,x with
 | .not,.s (.bool b)=>ok (.bool (!b))
 | .neg,.s (.int k n)=>some (arith k (-n))
 | _,_=>none
def z5q (d:TypeDesc) (x:AV):Option Res :=
 match d,x with
 | .int k,.s (.int k0 n)=>match k,k0 with
   | .i64,.i64=>ok (.int .i64 n)
   | .i64,.u64=>some (some (0<=n/\n<=18446744073709551615),none,.s (.int .i64 (IntKind.i64.wrap n)))
   | .i64,.u8=>some (some (0<=n/\n<=255),none,.s (.int .i64 n))
   | k,.i64=>some (some (yP n),none,.s (.int k (k.wrap n)))
   | k,_=>ok (.int k (k.wrap n))
 | _,_=>none
def z8w (x:AV) (i:Nat):Option Res :=
 match x with
 | .tup l=>match l[i]? with|some v=>some (none,none,v)|none=>none
 | _=>none
def zTx (T:Tab) (t:TypeId) (x:AV) (f:Nat):Option Res :=
 match x,zJI (T.desc t) f with
 | .agg l,some (off,u)=>match T.info u with
   | some i=>fitting (off+i.size) l.length (part (zAE i.desc) l off i.size)
   | none=>none
 | _,_=>none
def zW9 (T:Tab) (t:TypeId) (x i:AV) (lit:Bool):Option Res :=
 match x,i,T.desc t with
 | .agg l,.s (.int _ i),.array n u=>match T.info u with
   | some ti=>match ti.size,zAE ti.desc,Nat.beq l.length n with
     | 1,false,true=>match lit with
       | true=>match Nat.blt i.toNat n,Int.blt' i with
         | true,false=>ok (l.getD i.toNat .junk)
         | _,_=>none
       | false=>match zCZ l with
         | some ns=>need (0<=i/\i<n) (.int .i64 (ns.getD i.toNat 0))
         | none=>none
     | _,_,_=>none
   | none=>none
 | _,_,_=>none
def zXN (T:Tab) (t:TypeId) (ps:List (Nat×AV)):Option Res :=
 match T.info t with
 | some ti=>match ti.desc with
   | .struct fs=>match lay (fun i=>match fs.toList[i]? with|some f=>some (f.offset,T.sizeOf f.type)|none=>none) ti.zero ps,fs.toList.all (fun f=>T.has f.type) with
     | some l,true=>some (none,none,.agg l)
     | _,_=>none
   | .array _ u=>match lay (fun i=>some (i*T.sizeOf u,T.sizeOf u)) ti.zero ps,T.has u with
     | some l,true=>some (none,none,.agg l)
     | _,_=>none
   | _=>none
 | none=>none
def zL3 (T:Tab) (t:TypeId) (hp:jJ) (x:AV):Option Res :=
 match x,T.info t with
 | .s a,some ti=>match a with
   | .ip e x k=>fitting (k+ti.size) e.size (part (zAE ti.desc) (e.cells x) k ti.size)
   | .pt e o=>match Nat.ble ti.size e.size with
     | true=>some (none,some (o.isSome=true),part (zAE ti.desc) (e.cells (o.getD e.dflt)) 0 ti.size)
     | false=>none
   | .ipi e x j=>match zEc ti.desc (e.cells x) with
     | some (k,ns)=>ok (.int k (ns.getD j 0))
     | none=>none
   | .ptr id i k=>match hgp hp id with
     | some (.row e _ xs)=>fitting (k+ti.size) e.size (part (zAE ti.desc) (e.cells (xs.getD i e.dflt)) k ti.size)
     | some (.flat _ cs)=>match i with
       | 0=>fitting (k+ti.size) cs.length (part (zAE ti.desc) cs k ti.size)
       | _=>none
     | _=>none
   | .pti id i j=>match hgp hp id with
     | some (.row e _ xs)=>match zEc ti.desc (e.cells (xs.getD i e.dflt)) with
       | some (k,ns)=>ok (.int k (ns.getD j 0))
       | none=>none
     | some (.flat _ cs)=>match i,zEc ti.desc cs with
       | 0,some (k,ns)=>ok (.int k (ns.getD j 0))
       | _,_=>none
     | _=>none
   | _=>none
 | _,_=>none
def z9T (x:AV):Option Res :=
 match x with
 | .s (.ip e x k)=>ok (.ip e x k)
 | .s (.pt e o)=>need (o.isSome=true) (.pt e o)
 | .s (.ptr i j k)=>ok (.ptr i j k)
 | _=>none
def zGn (T:Tab) (t:TypeId) (x:AV) (f:Nat):Option Res :=
 match x,zJI (T.desc t) f with
 | .s a,some (off,u)=>match Nat.beq (T.sizeOf u) 0,a with
   | false,.ip e x k=>ok (.ip e x (k+off))
   | false,.pt e o=>need (o.isSome=true) (.ip e (o.getD e.dflt) off)
   | false,.ptr id i k=>ok (.ptr id i (k+off))
   | _,_=>none
 | _,_=>none
def zA3 (T:Tab) (t:TypeId) (hp:jJ) (x i:AV) (lit:Bool):Option Res :=
 match x,i,T.desc t with
 | .s a, .s (.int _ i),.array n u=>match lit with
   | true=>match Nat.blt i.toNat n,Int.blt' i,Nat.beq (T.sizeOf u) 0,a with
     | true,false,false,.ip e x k=>ok (.ip e x (k+i.toNat*T.sizeOf u))
     | true,false,false,.ptr id j k=>ok (.ptr id j (k+i.toNat*T.sizeOf u))
     | _,_,_,_=>none
   | false=>match T.sizeOf u,a with
     | 1,.ip e x 0=>match Nat.beq e.size n with
       | true=>need (0<=i/\i<n) (.ipi e x i.toNat)
       | false=>none
     | 1,.ptr id j 0=>match hgp hp id with
       | some (.row e _ _)=>match Nat.beq e.size n with
         | true=>need (0<=i/\i<n) (.pti id j i.toNat)
         | false=>none
       | some (.flat _ cs)=>match Nat.beq cs.length n with
         | true=>need (0<=i/\i<n) (.pti id j i.toNat)
         | false=>none
       | _=>none
     | _,_=>none
 | .s a,.s (.int _ i),.slice u=>match a with
   | .sl e xs=>match Nat.beq (T.sizeOf u) e.size,Nat.beq (T.sizeOf u) 0 with
     | true,false=>need (0<=i/\i<xs.length) (.ip e (xs.getD i.toNat e.dflt) 0)
     | _,_=>none
   | .own id s n=>match hgp hp id with
     | some (.row e _ _)=>match Nat.beq (T.sizeOf u) e.size,Nat.beq (T.sizeOf u) 0 with
       | true,false=>need (0<=i/\i<n) (.ptr id (s+i.toNat) 0)
       | _,_=>none
     | _=>none
   | _=>none
 | _,_,_=>none
def zKe (T:Tab) (t:TypeId) (hp:jJ) (x:AV) (lo hi:Option AV):Option Res :=
 match x,T.desc t with
 | .s (.sl e xs),.slice u=>match Nat.beq (T.sizeOf u) e.size,Nat.beq (T.sizeOf u) 0 with
   | true,false=>match lo,hi with
     | none,none=>need (0<=xs.length) (.sl e xs)
     | some (.s (.int _ lo)),none=>need (0<=lo/\lo<=xs.length) (.sl e ((xs.take xs.length).drop lo.toNat))
     | none,some (.s (.int _ hi))=>need (0<=hi/\hi<=xs.length) (.sl e ((xs.take hi.toNat).drop 0))
     | some (.s (.int _ lo)),some (.s (.int _ hi))=>need (0<=lo/\lo<=hi/\hi<=xs.length) (.sl e ((xs.take hi.toNat).drop lo.toNat))
     | _,_=>none
   | _,_=>none
 | .s (.own id s n),.slice u=>match hgp hp id with
   | some (.row e _ _)=>match Nat.beq (T.sizeOf u) e.size,Nat.beq (T.sizeOf u) 0 with
     | true,false=>match lo,hi with
       | some (.s (.int _ lo)),none=>need (0<=lo/\lo<=n) (.own id (s+lo.toNat) (n - lo.toNat))
       | none,some (.s (.int _ hi))=>need (0<=hi/\hi<=n) (.own id s hi.toNat)
       | some (.s (.int _ lo)),some (.s (.int _ hi))=>need (0<=lo/\lo<=hi/\hi<=n) (.own id (s+lo.toNat) (hi.toNat - lo.toNat))
       | _,_=>none
     | _,_=>none
   | _=>none
 | .s (.ptr id 0 0),.array n u=>match hgp hp id with
   | some (.flat _ cs)=>match Nat.beq cs.length n,Nat.beq (T.sizeOf u) 0,lo,hi with
     | true,false,none,none=>ok (.arr id n)
     | _,_,_,_=>none
   | _=>none
 | _,_=>none
def zGl (T:Tab) (t:TypeId) (hp:jJ) (x key:AV) (commaOk:Bool):Option Res :=
 match x,key.flat,T.desc t with
 | .s a,some kc,.map kt u=>match T.info kt,T.info u,zS9 hp a with
   | some ki,some ui,some mv=>match zOm ki.ety mv.k&&zOm ui.ety mv.v&&(key.isAgg==mv.k.isAgg)&&(zAE ui.desc==mv.v.isAgg),mv.k.dec kc with
     | true,some q=>match commaOk with
       | true=>some (none,none,.tup [part (zAE ui.desc) (mv.v.cells ((jS mv.k mv.m q).getD mv.v.dflt)) 0 ui.size,.s (.bool (jS mv.k mv.m q).isSome)])
       | false=>some (none,none,part (zAE ui.desc) (mv.v.cells ((jS mv.k mv.m q).getD mv.v.dflt)) 0 ui.size)
     | _,_=>none
   | _,_,_=>none
 | _,_,_=>none
def zAU (ev:Operand->AV):Callee->Callee
 | .value (.tmp t)=>match ev (.tmp t) with
   | .s (.val (.func (.func f) ⟨[]⟩ ⟨[]⟩))=> .value (.func f)
   | _=> .value (.tmp t)
 | c=>c
def zT0 (ev:Operand->AV):Callee->Option (FuncId×List AV)
 | .value (.tmp t)=>match ev (.tmp t) with
   | .s (.clo f ps)=>some (f,ps.map fun q=> .s (.pt q.e (some q.x)))
   | _=>none
 | _=>none
def zE1 (T:Tab) (hp:jJ) (callee:Callee) (ts:List TypeId) (vs:List AV):Option Res :=
 match callee,vs with
 | .builtin .len,[x]=>match ts with
   | t::_=>lenOf hp (T.desc t) x
   | []=>none
 | .builtin .max,[.s (.int k a),.s (.int k' b)]=>match decEq k k' with
   | .isTrue _=>ok (.int k (max a b))
   | .isFalse _=>none
 | .builtin .min,[.s (.int k a),.s (.int k' b)]=>match decEq k k' with
   | .isTrue _=>ok (.int k (min a b))
   | .isFalse _=>none
 | .value (.func f),vs=>match zFP T.fn f with
   | some c=>match c (vs.map (AV.viewT T hp)) with
     | some (p,q,v)=>match (vs.all AV.clear|| v.plain) with
       | true=>some (p,q,v)
       | false=>none
     | none=>none
   | none=>none
 | _,_=>none
def zE8 (e:ETy):List e.T->List (Nat×AV)->Option (List e.T)
 | l,[]=>some l
 | l,(i,v)::r=>match v.flat with
   | some m=>match e.dec m,Nat.blt i l.length with
     | some x,true=>zE8 e (l.set i x) r
     | _,_=>none
   | none=>none
def zC3 (T:Tab) (t:TypeId) (n:Nat) (ps:List (Nat×AV)):Option Res :=
 match T.desc t with
 | .slice u=>match T.info u with
   | some ui=>match ui.ety with
     | some e=>match zE8 e (List.replicate n e.dflt) ps,Nat.ble (n*ui.size) 16777216,Nat.beq ui.size 0 with
       | some xs,true,false=>some (none,none,.s (.sl e xs))
       | _,_,_=>none
     | none=>none
   | none=>none
 | _=>none
def Operand.lit:Operand->Bool
 | .const _=>true
 | _=>false
def jO (T:Tab) (op:Op) (ev:Operand->AV) (hp:jJ):Option Res :=
 match op with
 | .move x=>some (none,none,ev x)
 | .assign x=>some (none,none,ev x)
 | .pick c a b=>z56 (ev c) (ev a) (ev b)
 | .binOp op t x y _=>bin T t op (ev x) (ev y)
 | .unOp op _ x=>cUn op (ev x)
 | .convert src dst x=>match T.desc src with
   | .int _=>z5q (T.desc dst) (ev x)
   | _=>none
 | .extract x i=>z8w (ev x) i
 | .field t x f=>zTx T t (ev x) f
 | .index t x i=>zW9 T t (ev x) (ev i) (Operand.lit i)
 | .build t ps=>zXN T t (ps.toList.map fun p=>(p.1,ev p.2))
 | .buildSlice t n ps=>zC3 T t n (ps.toList.map fun p=>(p.1,ev p.2))
 | .load t x=>zL3 T t hp (ev x)
 | .nilCheck x=>z9T (ev x)
 | .fieldAddr t x f=>zGn T t (ev x) f
 | .indexAddr t x i=>zA3 T t hp (ev x) (ev i) (Operand.lit i)
 | .slice t x lo hi none=>zKe T t hp (ev x) (lo.map ev) (hi.map ev)
 | .lookup t x i commaOk=>zGl T t hp (ev x) (ev i) commaOk
 | .call c=>match zT0 ev c.callee with
   | some (f,ps)=>zE1 T hp (.value (.func f)) [] (c.args.toList.map ev++ps)
   | none=>zE1 T hp (zAU ev c.callee) c.argTypes.toList (c.args.toList.map ev)
 | _=>none
def kill (id:Nat):AS->AS
 | .own i s n=>match Nat.beq i id with|true=> .junk|false=> .own i s n
 | .ptr i j k=>match Nat.beq i id with|true=> .junk|false=> .ptr i j k
 | .pti i j k=>match Nat.beq i id with|true=> .junk|false=> .pti i j k
 | .omp i=>match Nat.beq i id with|true=> .junk|false=> .omp i
 | .arr i n=>match Nat.beq i id with|true=> .junk|false=> .arr i n
 | a=>a
def AV.map1 (f:AS->AS):AV->AV
 | .s a=> .s (f a)
 | .agg l=> .agg (l.map f)
 | .tup _=> .junk
def AV.mapAS (f:AS->AS):AV->AV
 | .s a=> .s (f a)
 | .agg l=> .agg (l.map f)
 | .tup l=> .tup (l.map (AV.map1 f))
def Env.mapAS (f:AS->AS):Env->Env
 | []=>[]
 | (t,v)::r=>(t,v.mapAS f)::Env.mapAS f r
def Ob.mapAS (f:AS->AS):Ob->Ob
 | .flat T cs=> .flat T (cs.map f)
 | .fr X l=> .fr X (Env.mapAS f l)
 | o=>o
def jJ.mapAS (f:AS->AS):jJ->jJ
 | []=>[]
 | (t,v)::r=>(t,v.mapAS f)::jJ.mapAS f r
def zA6:jJ->Nat->Ob->jJ
 | [],i,o=>[(i,o)]
 | (k,v)::r,i,o=>match Nat.beq k i with|true=>(k,o)::r|false=>(k,v)::zA6 r i o
def zDU:jJ->Nat->jJ
 | [],_=>[]
 | (k,v)::r,i=>match Nat.beq k i with|true=>zDU r i|false=>(k,v)::zDU r i
def St.put (st:St) (d:Option Tmp) (v:AV):St :=
 match d with
 | some t=> {st with env:=(t,v)::st.env}
 | none=>st
def zJz (id:Nat) (e:ETy) (xs:List e.T):AS->AS
 | .own i s n=>match Nat.beq i id with|true=> .sl e ((xs.drop s).take n)|false=> .own i s n
 | .ptr i j k=>match Nat.beq i id with
   | true=>match k with|0=> .ip e (xs.getD j e.dflt) 0|_+1=> .junk
   | false=> .ptr i j k
 | .pti i j k=>match Nat.beq i id with|true=> .junk|false=> .pti i j k
 | a=>a
def zQ7 (id:Nat) (k v:ETy) (m:List (k.T×v.T)):AS->AS
 | .omp i=>match Nat.beq i id with|true=> .mp k v m|false=> .omp i
 | a=>a
def St.freeze (st:St) (id:Nat):St :=
 match hgp st.hp id with
 | some (.row e _ xs)=> {env:=st.env.mapAS (zJz id e xs),hp:=(zDU st.hp id).mapAS (zJz id e xs),next:=st.next}
 | some (.map k v m)=> {env:=st.env.mapAS (zQ7 id k v m),hp:=(zDU st.hp id).mapAS (zQ7 id k v m),next:=st.next}
 | _=>st
def zKK:List AS->List Nat
 | []=>[]
 | .own i _ _::r=>i::zKK r
 | .omp i::r=>i::zKK r
 | _::r=>zKK r
def AV.ids:AV->List Nat
 | .s a=>zKK [a]
 | .agg l=>zKK l
 | .tup _=>[]
def St.freezeAll (st:St):List Nat->St
 | []=>st
 | i::r=>(st.freeze i).freezeAll r
def zIi (T:Tab) (id:Nat) (ob:Ob):AS->AS
 | .ptr i j k=>match Nat.beq i id with
   | true=>match viewT T [(id,ob)] (.ptr i j k) with
     | .pt e o=> .pt e o
     | _=> .junk
   | false=> .ptr i j k
 | .pti i j k=>match Nat.beq i id with|true=> .junk|false=> .pti i j k
 | a=>a
def St.freezeF (T:Tab) (st:St) (id:Nat):St :=
 match hget st.hp id with
 | some (.flat t cs)=> {env:=st.env.mapAS (zIi T id (.flat t cs)),hp:=(zDU st.hp id).mapAS (zIi T id (.flat t cs)),next:=st.next}
 | _=>st
def zNd (env:Env):List Operand->List Nat
 | []=>[]
 | c::r=>match y7 env c with
   | .s (.ptr i 0 0)=>i::zNd env r
   | _=>zNd env r
def zLE (hp:jJ):List Nat->List Nat
 | []=>[]
 | i::r=>match hget hp i with
   | some (.flat _ cs)=>zKK cs++zLE hp r
   | _=>zLE hp r
def St.freezeFs (T:Tab) (st:St):List Nat->St
 | []=>st
 | i::r=>(st.freezeF T i).freezeFs T r
def St.capture (T:Tab) (st:St) (caps:List Operand):St:=(st.freezeAll (zLE st.hp (zNd st.env caps))).freezeFs T (zNd st.env caps)
def z8U (env:Env):List Operand->Option (List PtV)
 | []=>some []
 | c::r=>match y7 env c,z8U env r with
   | .s (.pt e (some x)),some ps=>some (⟨e,x⟩::ps)
   | _,_=>none
def z9k:Op->Option (Nat×List Operand)
 | .makeFunc (.func f) first caps=>match first.toList with
   | []=>some (f,caps.toList)
   | _=>none
 | _=>none
def zGE (st:St) (d:Option Tmp) (e:ETy) (u:TypeId) (xs:List e.T) (n:Nat):St :=
 ({st with hp:=(st.next,.row e u xs)::st.hp,next:=st.next+1} :St).put d (.s (.own st.next 0 n))
def zNr (st:St) (d:Option Tmp) (e:ETy) (u:TypeId) (xss:List (List e.T)) (n:Nat):St :=
 ({st with hp:=(st.next,.grow e u xss)::st.hp,next:=st.next+1} :St).put d (.s (.own st.next 0 n))
def zC1 (st:St) (d:Option Tmp) (u:TypeId) (cs:List AS):St :=
 ({st with hp:=(st.next,.flat u cs)::st.hp,next:=st.next+1} :St).put d (.s (.ptr st.next 0 0))
def ETy.setc:(e:ETy)->e.T->Nat->AS->Option e.T
 | .arr3,x,k,.int .i64 n=>some (if k=0 then n else x.1,if k=1 then n else x.2.1,if k=2 then n else x.2.2)
 | .arr2,x,k,.int .i64 n=>some (if k=0 then n else x.1,if k=1 then n else x.2)
 | _,_,_,_=>none
def zFU (k:Nat) (n:Int):Nat->List Int->List AS
 | _,[]=>[]
 | j,a::r=> .int .i64 (if k=j then n else a)::zFU k n (j+1) r
def zNM (cs:List AS) (k:Nat) (a:AS):Option (List AS) :=
 match a,zCZ cs with
 | .int .i64 n,some ns=>some (zFU k n 0 ns)
 | _,_=>none
def AS.storable:AS->Bool
 | .junk=>false
 | .val (.tuple _)=>false
 | _=>true
def zBz (T:Tab) (t:TypeId) (x v:AV) (st:St) (d:Option Tmp):Option (Option Prop×Option Prop×St) :=
 match x,v.flat with
 | .s (.ptr id i k),some m=>match (Nat.beq m.length (T.sizeOf t)&& !Nat.beq (T.sizeOf t) 0),m.all AS.storable,hget st.hp id with
   | true,true,some (.row e u xs)=>match Nat.beq k 0,Nat.beq m.length e.size with
     | true,true=>match e.dec m with
       | some y=>some (none,none,({st with hp:=zA6 st.hp id (.row e u (xs.set i y))} :St).put d .undef)
       | none=>none
     | _,_=>match m with
       | [a]=>match Nat.blt k e.size,e.setc (xs.getD i e.dflt) k a with
         | true,some y=>some (none,none,({st with hp:=zA6 st.hp id (.row e u (xs.set i y))} :St).put d .undef)
         | _,_=>none
       | _=>none
   | true,true,some (.flat u cs)=>match i,Nat.ble (k+m.length) cs.length with
     | 0,true=>some (none,none,({st with hp:=zA6 st.hp id (.flat u (zAZ cs k m))} :St).put d .undef)
     | _,_=>none
   | _,_,_=>none
 | .s (.pti id i j),some [a]=>match Nat.beq 1 (T.sizeOf t),a.storable,hget st.hp id with
   | true,true,some (.row e u xs)=>match e.setc (xs.getD i e.dflt) j a with
     | some y=>some (none,none,({st with hp:=zA6 st.hp id (.row e u (xs.set i y))} :St).put d .undef)
     | none=>none
   | true,true,some (.flat u cs)=>match i,zNM cs j a with
     | 0,some cs=>some (none,none,({st with hp:=zA6 st.hp id (.flat u cs)} :St).put d .undef)
     | _,_=>none
   | _,_,_=>none
 | _,_=>none
def zCY (T:Tab) (t:TypeId) (n:Nat) (ps:List (Nat×AV)) (st:St) (d:Option Tmp):Option (Option Prop×Option Prop×St) :=
 match T.desc t with
 | .slice u=>match T.info u with
   | some ui=>match ui.ety with
     | some e=>match zE8 e (List.replicate n e.dflt) ps,Nat.ble (n*ui.size) 16777216,Nat.beq ui.size 0 with
       | some xs,true,false=>some (none,none,zGE st d e u xs n)
       | _,_,_=>none
     | none=>none
   | none=>none
 | _=>none
def zDF (T:Tab) (t:TypeId) (l c:AV) (st:St) (d:Option Tmp):Option (Option Prop×Option Prop×St) :=
 match T.desc t,l,c with
 | .slice u,.s (.int .i64 n),.s (.int .i64 c)=>match T.info u with
   | some ui=>match ui.ety with
     | some (.sl e)=>match Nat.beq ui.bytes 0 with
       | false=>some (none,some (0<=n/\n<=c/\c*ui.bytes<=140737488355328),zNr st d e u (List.replicate n.toNat []) n.toNat)
       | true=>none
     | some e=>match Nat.beq ui.bytes 0 with
       | false=>some (none,some (0<=n/\n<=c/\c*ui.bytes<=140737488355328),zGE st d e u (List.replicate n.toNat e.dflt) n.toNat)
       | true=>none
     | none=>none
   | none=>none
 | _,_,_=>none
def zGK (T:Tab) (t:TypeId) (st:St) (d:Option Tmp):Option (Option Prop×Option Prop×St) :=
 match T.desc t with
 | .map k v=>match T.info k,T.info v with
   | some ki,some vi=>match ki.ety,vi.ety with
     | some ek,some (.sl e)=>some (none,none,({st with hp:=(st.next,.gmap ek e [])::st.hp,next:=st.next+1} :St).put d (.s (.omp st.next)))
     | some ek,some ev=>some (none,none,({st with hp:=(st.next,.map ek ev [])::st.hp,next:=st.next+1} :St).put d (.s (.omp st.next)))
     | _,_=>none
   | _,_=>none
 | _=>none
def zEw (T:Tab) (t:TypeId) (x key v:AV) (st:St) (d:Option Tmp):Option (Option Prop×Option Prop×St) :=
 match x,key.flat,v.flat,T.desc t with
 | .s (.omp id),some kc,some vc,.map kt u=>match T.info kt,T.info u,hget st.hp id with
   | some ki,some ui,some (.map k e m)=>match zOm ki.ety k&&zOm ui.ety e&&(key.isAgg==k.isAgg)&&(v.isAgg==e.isAgg),k.dec kc,e.dec vc with
     | true,some kk,some vv=>some (none,none,({st with hp:=zA6 st.hp id (.map k e (zAB k m kk vv))} :St).put d .undef)
     | _,_,_=>none
   | _,_,_=>none
 | _,_,_,_=>none
def zB9 (T:Tab) (ts:List TypeId) (dst src:AV) (st:St) (d:Option Tmp):Option (Option Prop×Option Prop×St) :=
 match ts,dst,src.view st.hp with
 | [t, t'],.s (.own id s n),.s (.sl e' ys)=>match Nat.beq t t',T.desc t,hget st.hp id with
   | true,.slice u',some (.row e u xs)=>match decEq e' e,Nat.beq u u',T.info u with
     | .isTrue h,true,some ui=>match Nat.beq ui.bytes 0,Nat.beq ui.size e.size,Nat.beq ui.size 0 with
       | false,true,false=>some (none,some (((n:Int)+ys.length)*ui.bytes<=140737488355328),
         ({env:=st.env.mapAS (kill id),hp:=zA6 (st.hp.mapAS (kill id)) id (.row e u ((xs.drop s).take n++(h▸ys))),next:=st.next} :St).put d (.s (.own id 0 (n+ys.length))))
       | _,_,_=>none
     | _,_,_=>none
   | _,_,_=>none
 | _,_,_=>none
def zM8 (n:Nat):AS->AS
 | .own i s k=> .own (n+i) s k
 | .ptr i j k=> .ptr (n+i) j k
 | .pti i j k=> .pti (n+i) j k
 | .omp i=> .omp (n+i)
 | .arr i k=> .arr (n+i) k
 | a=>a
def zIn:St->List Ob->St
 | st,[]=>st
 | st,o::r=>zIn {st with hp:=(st.next,o)::st.hp,next:=st.next+1} r
def ETy.solid:ETy->Bool
 | .int _=>true
 | .bool=>true
 | .arr2=>true
 | .arr3=>true
 | .pair a b=>a.solid&&b.solid
 | _=>false
def Ob.solid:Ob->Bool
 | .row e _ _=>e.solid
 | _=>false
def AS.plainF:AS->Bool
 | .own _ _ _=>true
 | a=>a.plain
def AV.plainF:AV->Bool
 | .s a=>a.plainF
 | .agg l=>l.all AS.plainF
 | .tup l=>l.all fun v=>match v with
   | .s a=>a.plainF
   | .agg l=>l.all AS.plainF
   | .tup _=>false
def zQl (T:Tab) (f:FuncId) (vs:List AV) (st:St) (d:Option Tmp):Option (Option Prop×Option Prop×St) :=
 match zFP T.fr f with
 | some (.res c)=>match c (vs.map (AV.viewT T st.hp)) with
   | some (p,q,v,obs)=>match vs.all AV.clear|| (v.plainF&&obs.all Ob.solid) with
     | true=>some (p,q,(zIn st obs).put d (v.mapAS (zM8 st.next)))
     | false=>none
   | none=>none
 | _=>none
def zP7 (T:Tab) (t:TypeId) (x:AV) (st:St) (d:Option Tmp):Option (Option Prop×Option Prop×St) :=
 match x,T.desc t with
 | .s (.val (.slice none 0 0)),.slice u=>match T.info u with
   | some ui=>match ui.ety with
     | some e=>some (none,none,zGE st d e u [] 0)
     | none=>none
   | none=>none
 | _,_=>none
def zCG (T:Tab) (o:Oper) (st:St):Option (Option Prop×Option Prop×St) :=
 let ev:=y7 st.env
 match o.op with
 | .assign x=>zP7 T o.type (ev x) st o.dst
 | .box t x=>match (ev x).flat with
   | some cs=>some (none,none,zC1 st o.dst t cs)
   | none=>none
 | .alloc t=>match T.info t with
   | some ti=>some (none,none,zC1 st o.dst t ti.zero)
   | none=>none
 | .store t x v=>zBz T t (ev x) (ev v) st o.dst
 | .buildSlice t n ps=>zCY T t n (ps.toList.map fun p=>(p.1,ev p.2)) st o.dst
 | .makeSlice t l c=>zDF T t (ev l) (ev c) st o.dst
 | .makeMap t none=>zGK T t st o.dst
 | .mapUpdate t m k v=>zEw T t (ev m) (ev k) (ev v) st o.dst
 | .insert t m k v=>zEw T t (ev m) (ev k) (ev v) st o.dst
 | .call c=>match zAU ev c.callee,c.args.toList with
   | .builtin .append,[x,y]=>zB9 T c.argTypes.toList (ev x) (ev y) st o.dst
   | .value (.func f),xs=>zQl T f (xs.map ev) st o.dst
   | _,_=>none
 | _=>none
def jY (T:Tab) (o:Oper) (st:St):Option (Option Prop×Option Prop×St) :=
 match jO T o.op (y7 st.env) st.hp with
 | some (p,q,v)=>some (p,q,st.put o.dst v)
 | none=>none
def zUU (ev:Operand->AV):Op->List Nat
 | .buildSlice _ _ ps=>ps.toList.flatMap fun p=>(ev p.2).ids
 | .store _ _ v=>(ev v).ids
 | .mapUpdate _ _ _ v=>(ev v).ids
 | .insert _ _ _ v=>(ev v).ids
 | .call c=>match c.callee with
   | .value _=>c.args.toList.flatMap fun x=>(ev x).ids
   | _=>[]
 | _=>[]
def zGd:Op->Bool
 | .call c=>match c.callee with
   | .value _=>true
   | _=>false
 | _=>false
def zJg (T:Tab) (o:Oper) (st:St):Option (Option Prop×Option Prop×St) :=
 match zGd o.op with
 | true=>none
 | false=>zCG T o st
def zBr (T:Tab) (draw:Bool) (o:Oper) (st:St):Option (Option Prop×Option Prop×St) :=
 match draw with
 | true=>match jY T o st with|some r=>some r|none=>zJg T o st
 | false =>match zCG T o st with
   | some r=>some r
   | none=>match jY T o st with
     | some r=>some r
     | none=>match zUU (y7 st.env) o.op with
       | []=>none
       | i::ids=>match zCG T o (st.freezeAll (i::ids)) with
         | some r=>some r
         | none=>jY T o (st.freezeAll (i::ids))
def BIf:Bool->Prop->Prop->Prop
 | true,p,_=>p
 | false,_,q=>q
theorem BIf.intro {b:Bool} {p q:Prop} (h1:b=true->p) (h2:b=false->q):BIf b p q:=by cases b;exact h2 rfl;exact h1 rfl
def zMk (q k:Prop):Prop:=q/\k
def zPL (p k:Prop):Prop:=p->k
def z01 (p q:Prop):Prop:=p/\q
theorem z01.intro {p q:Prop} (h:p) (h':q):z01 p q:=⟨h,h'⟩
theorem z01.out {p q:Prop} (h:z01 p q):p/\q:=h
theorem zMk.intro {q k:Prop} (h:q) (h':k):zMk q k:=⟨h,h'⟩
theorem zPL.intro {p k:Prop} (h:p->k):zPL p k:=h
theorem zMk.out {q k:Prop} (h:zMk q k):q/\k:=h
theorem zPL.out {p k:Prop} (h:zPL p k):p->k:=h
attribute [irreducible] zMk zPL z01
theorem BIf.dec {p x y:Prop} [Decidable p] (h1:p->x) (h2: ¬p->y):BIf (decide p) x y:=BIf.intro (fun h=>h1 (of_decide_eq_true h)) (fun h=>h2 (of_decide_eq_false h))
theorem BIf.eqi {α:Type} [BEq α] [LawfulBEq α] {a b:α} {x y:Prop} (h1:a=b->x) (h2:a≠b->y):BIf (a==b) x y:=BIf.intro (fun h=>h1 (by simpa using h)) (fun h=>h2 (by simpa using h))
theorem BIf.nei {α:Type} [BEq α] [LawfulBEq α] {a b:α} {x y:Prop} (h1:a≠b->x) (h2:a=b->y):BIf (a != b) x y:=BIf.intro (fun h=>h1 (by simpa using h)) (fun h=>h2 (by simpa using h))
theorem BIf.nt {b:Bool} {x y:Prop} (h:BIf b y x):BIf (!b) x y:=by cases b<;>exact h
theorem BIf.and {a b:Bool} {x y:Prop} (h:BIf a (BIf b x y) y):BIf (a&&b) x y:=by cases a<;>cases b<;>exact h
theorem BIf.or {a b:Bool} {x y:Prop} (h:BIf a x (BIf b x y)):BIf (a|| b) x y:=by cases a<;>cases b<;>exact h
def zBS:Nat->(Nat->Prop)->Prop
 | 0,K=>K 0
 | n+1,K=>zBS n fun m=>K (m+1)
theorem zCO: ∀ (n:Nat) (K:Nat->Prop),zBS n K=K n
 | 0,_=>rfl
 | n+1,K=>by rw [zBS,zCO n]
def AS.force (K:AS->Prop):AS->Prop
 | .int k n=>K (.int k n)
 | .bool b=>K (.bool b)
 | .val v=>K (.val v)
 | .sl e xs=>K (.sl e xs)
 | .mp k v m=>K (.mp k v m)
 | .pt e o=>K (.pt e o)
 | .ip e x k=>K (.ip e x k)
 | .own i s n=>zBS i fun i=>K (.own i s n)
 | .ipi e x k=>K (.ipi e x k)
 | .ptr i j k=>zBS i fun i=>K (.ptr i j k)
 | .pti i j k=>zBS i fun i=>K (.pti i j k)
 | .omp i=>zBS i fun i=>K (.omp i)
 | .arr i n=>zBS i fun i=>K (.arr i n)
 | .clo f ps=>K (.clo f ps)
 | .nq b e xs=>K (.nq b e xs)
 | .junk=>K .junk
def zDG (K:List AS->Prop):List AS->Prop
 | []=>K []
 | a::l=>a.force fun a=>zDG (fun l=>K (a::l)) l
def zCc (K:List AV->Prop):List AV->Prop
 | []=>K []
 | .s a::r=>a.force fun a=>zCc (fun r=>K (.s a::r)) r
 | .agg l::r=>zDG (fun l=>zCc (fun r=>K (.agg l::r)) r) l
 | .tup l::r=>zCc (fun r=>K (.tup l::r)) r
def AV.force (K:AV->Prop):AV->Prop
 | .s a=>a.force fun a=>K (.s a)
 | .agg l=>zDG (fun l=>K (.agg l)) l
 | .tup l=>zCc (fun l=>K (.tup l)) l
def Ob.force (K:Ob->Prop):Ob->Prop
 | .row e T xs=>K (.row e T xs)
 | .flat T cs=>zDG (fun cs=>K (.flat T cs)) cs
 | .map k v m=>K (.map k v m)
 | .gmap k e m=>K (.gmap k e m)
 | .grow e T xss=>K (.grow e T xss)
 | .fr X l=>K (.fr X l)
def zHp (K:Env->Prop):Env->Prop
 | []=>K []
 | [(t,v)]=>v.force fun v=>K [(t,v)]
 | (t,v)::x::r=>v.force fun v=>K ((t,v)::x::r)
def zDT (K:Env->Prop):Env->Prop
 | []=>K []
 | (t,v)::r=>v.force fun v=>zDT (fun r=>K ((t,v)::r)) r
def zBo (K:jJ->Prop):jJ->Prop
 | []=>K []
 | (t,v)::r=>zBS t fun t=>v.force fun v=>zBo (fun r=>K ((t,v)::r)) r
def St.force (K:St->Prop):St->Prop
 | ⟨env,hp,nx⟩=>zHp (fun env=>zBo (fun hp=>zBS nx fun nx=>K ⟨env,hp,nx⟩) hp) env
def St.forceAll (K:St->Prop):St->Prop
 | ⟨env,hp,nx⟩=>zDT (fun env=>zBo (fun hp=>zBS nx fun nx=>K ⟨env,hp,nx⟩) hp) env
theorem AS.force_eq (K:AS->Prop) (a:AS):a.force K=K a:=by cases a<;>first|rfl|exact zCO _ _
theorem zCh: ∀ (l:List AS) (K:List AS->Prop),zDG K l=K l
 | [],_=>rfl
 | a::l,K=>by rw [zDG,AS.force_eq,zCh l]
theorem zD3: ∀ (l:List AV) (K:List AV->Prop),zCc K l=K l
 | [],_=>rfl
 | .s a::r,K=>by rw [zCc,AS.force_eq,zD3 r]
 | .agg l::r,K=>by rw [zCc,zCh,zD3 r]
 | .tup l::r,K=>by rw [zCc,zD3 r]
theorem AV.force_eq (K:AV->Prop) (a:AV):a.force K=K a:=by
 match a with
 | .s a=>rw [AV.force,AS.force_eq]
 | .agg l=>rw [AV.force,zCh]
 | .tup l=>rw [AV.force,zD3]
theorem Ob.force_eq (K:Ob->Prop) (a:Ob):a.force K=K a:=by
 cases a with
 | row=>rfl
 | flat T cs=>rw [Ob.force,zCh]
 | map=>rfl
 | gmap=>rfl
 | grow=>rfl
 | fr=>rfl
theorem zQE (l:Env) (K:Env->Prop):zHp K l=K l:=by
 match l with
 | []=>rfl
 | [(t,v)]=>rw [zHp,AV.force_eq]
 | (t,v)::x::r=>rw [zHp,AV.force_eq]
theorem zFM: ∀ (l:Env) (K:Env->Prop),zDT K l=K l
 | [],_=>rfl
 | (t,v)::r,K=>by rw [zDT,AV.force_eq,zFM r]
theorem zBJ: ∀ (l:jJ) (K:jJ->Prop),zBo K l=K l
 | [],_=>rfl
 | (t,v)::r,K=>by rw [zBo,zCO,Ob.force_eq,zBJ r]
theorem St.force_eq (s:St) (K:St->Prop):s.force K=K s:=by
 obtain ⟨env,hp,nx⟩:=s;rw [St.force,zQE,zBJ,zCO]
theorem St.forceAll_eq (s:St) (K:St->Prop):s.forceAll K=K s:=by
 obtain ⟨env,hp,nx⟩:=s;rw [St.forceAll,zFM,zBJ,zCO]
def zSI (T:Tab) (draw:Bool) (o:Oper) (st:St) (K:St->Prop):Prop :=
 match zBr T draw o st with
 | some (none,none,st')=>st'.force K
 | some (some p,none,st')=>zPL p (st'.force K)
 | some (none,some q,st')=>zMk q (st'.force K)
 | some (some p,some q,st')=>zPL p (zMk q (st'.force K))
 | none=>False
def z9g (T:Tab) (o:Oper) (ev:Operand->AV):Option ((List AV->St->(AV->St->Prop)->Prop)×List AV) :=
 match o.op with
 | .call c=>match zAU ev c.callee with
   | .value (.func f)=>match zFP T.fr f with
     | some (.run h)=>some (h,c.args.toList.map ev)
     | _=>none
   | _=>none
 | _=>none
def z9d (o:Oper) (ev:Operand->AV):Option (FuncId×List AV) :=
 match o.op with
 | .call c=>match c.callee with
   | .value (.tmp t)=>match ev (.tmp t) with
     | .s (.clo f ps)=>some (f,c.args.toList.map ev++ps.map fun q=> .s (.pt q.e (some q.x)))
     | _=>none
   | _=>none
 | _=>none
def zOO (T:Tab) (o:Oper) (ev:Operand->AV) (st:St):Option St :=
 match o.op with
 | .call c=>match c.callee,c.args.toList,c.argTypes.toList with
   | .builtin .clear,[x],[t]=>match ev x,T.desc t with
     | .s (.own id s n),.slice u=>match hget st.hp id,T.info u with
       | some (.row (.int .i64) u' xs),some ti=>match ti.ety with
         | some (.int .i64)=>some (({st with hp:=zA6 st.hp id (.row (.int .i64) u' (xs.take s++(List.replicate n (0:Int)++xs.drop (s+n))))} :St).put o.dst .undef)
         | _=>none
       | _,_=>none
     | _,_=>none
   | _,_,_=>none
 | _=>none
def z92 (r:Option Res) (K:AV->Prop):Prop :=
 match r with
 | some (none,none,v)=>K v
 | some (some p,none,v)=>zPL p (K v)
 | some (none,some q,v)=>zMk q (K v)
 | some (some p,some q,v)=>zPL p (zMk q (K v))
 | none=>False
def aop (T:Tab) (draw:Bool) (o:Oper) (st:St) (K:St->Prop):Prop :=
 match draw with
 | true=>zSI T true o st K
 | false =>match z9g T o (y7 st.env) with
   | some (h,vs)=>h vs st fun v st'=>(st'.put o.dst v).force K
   | none=>match z9d o (y7 st.env) with
     | some (f,vs)=>z92 (zE1 T st.hp (.value (.func f)) [] vs) fun v=>(st.put o.dst v).force K
     | none=>match zOO T o (y7 st.env) st with
       | some st'=>st'.force K
       | none=>match z9k o.op with
         | some (f,caps)=>(st.capture T caps).force fun st1=>match z8U st1.env caps with
           | some ps=>(st1.put o.dst (.s (.clo f ps))).force K
           | none=>False
         | none=>zSI T false o st K
def qT (ops:Array Oper) (j:Nat):Option Tmp :=
 match ops[j]? with
 | some o=>o.dst
 | none=>none
def zFl (ops:Array Oper) (env:Env) (j:Nat):AV :=
 match ops[j]? with
 | some o=>match o.dst with
   | some d=>yZ env d
   | none=> .junk
 | none=> .junk
def zAN (T :Tab) (draw:Bool) (ops:Array Oper):List Oper->St->(St->Prop)->Prop
 | [],st,K=>K st
 | o :: r, st,K=>match o.guard with
   | none=>aop T draw o st (fun st'=>zAN T draw ops r st' K)
   | some (j,want)=>match zFl ops st.env j with
     | .s (.bool b)=>BIf b
        (match want with
          | true=>(st.put (qT ops j) (.s (.bool true))).force fun st=>aop T draw o st (fun st'=>zAN T draw ops r st' K)
          | false=>(st.put (qT ops j) (.s (.bool true))).force fun st=>(st.put o.dst .undef).force fun st=>zAN T draw ops r st K)
        (match want with
          | true=>(st.put (qT ops j) (.s (.bool false))).force fun st=>(st.put o.dst .undef).force fun st=>zAN T draw ops r st K
          | false=>(st.put (qT ops j) (.s (.bool false))).force fun st=>aop T draw o st (fun st'=>zAN T draw ops r st' K))
     | .s (.val (.tuple _))=>(st.put o.dst .undef).force fun st=>zAN T draw ops r st K
     | _=>False
def zNG:List AS->Nat->Option Nat
 | [],_=>none
 | .val (.slice none 0 0)::_,i=>some i
 | _::r,i=>zNG r (i+1)
def fieldAt:List Field->Nat->Option TypeId
 | [],_=>none
 | f::r,i=>match Nat.beq f.offset i with|true=>some f.type|false=>fieldAt r i
def zVz (T:Tab) (t:TypeId):Option (ETy×TypeId) :=
 match T.info t with
 | some ti=>match ti.ety,ti.desc with
   | some (.sl e),.slice u=>some (e,u)
   | _,_=>none
 | none=>none
def elemAt (T:Tab) (t:TypeId) (i:Nat):Option (ETy×TypeId) :=
 match T.desc t with
 | .struct fs=>match fieldAt fs.toList i with
   | some u=>zVz T u
   | none=>none
 | _=>zVz T t
def zIB (T:Tab) (env:Env) (hp:jJ) (nx:Nat) (id:Nat):St :=
 match hget hp id with
 | some (.flat t cs)=>match zNG cs 0 with
   | some i=>match elemAt T t i with
     | some (e,u)=> {env:=env,hp:=(id,.flat t (cs.set i (.own nx 0 0)))::(nx,.row e u [])::zDU hp id,next:=nx+1}
     | none=>⟨env,hp,nx⟩
   | none=>⟨env,hp,nx⟩
 | _=>⟨env,hp,nx⟩
def St.rowNil (T:Tab) (st:St) (id:Nat):St :=
 match st with
 | ⟨env,hp,nx⟩=>zIB T env hp nx id
theorem zK9 (T:Tab) (st:St) (id:Nat):st.rowNil T id=zIB T st.env st.hp st.next id:=by cases st;rfl
def zHc (T:Tab) (K:St->Prop):List Nat->St->Prop
 | [],st=>K st
 | i::r,st=>(st.rowNil T i).forceAll fun st=>zHc T K r st
structure Spec (X:Type) where
 inv:X->Prop
 live:X->Env
 keep:List Nat
 heap:X->jJ
 keepH:List Nat
 mu:X->Nat
 nils:List Nat:=[]
def zVP (env:Env):List Nat->Env
 | []=>[]
 | t::r=>(t,yZ env t)::zVP env r
def zMD (hp:jJ):List Nat->jJ
 | []=>[]
 | t::r=>match hget hp t with|some o=>(t,o)::zMD hp r|none=>zMD hp r
def Spec.head {X:Type} (S:Spec X) (st:St) (x:X):St :=
 {env:=S.live x++zVP st.env S.keep,hp:=S.heap x++zMD st.hp S.keepH,next:=st.next}
def z4m (env:Env):Env->Prop
 | []=>True
 | (t,v)::r=>v=yZ env t/\z4m env r
def zVX (hp:jJ):jJ->Prop
 | []=>True
 | (t,o)::r=>some o=hget hp t/\zVX hp r
def AS.idsBelow (n:Nat):AS->Bool
 | .own id _ _=>Nat.blt id n
 | .ptr id _ _=>Nat.blt id n
 | .pti id _ _=>Nat.blt id n
 | .omp id=>Nat.blt id n
 | .arr id _=>Nat.blt id n
 | _=>true
def AV.idsBelow (n:Nat):AV->Bool
 | .s a=>a.idsBelow n
 | .agg l=>l.all (AS.idsBelow n)
 | .tup _=>false
def zDW (n:Nat):Env->Bool
 | []=>true
 | (_,v)::r=>v.idsBelow n&&zDW n r
def zGR (n:Nat):jJ->Bool
 | []=>true
 | (i,o)::r=>Nat.blt i n&&(match o with|.flat _ cs=>cs.all (AS.idsBelow n)|.fr _ l=>zDW n l|_=>true)&&zGR n r
def zOs (s t:St):Prop:=z4m s.env t.env/\zVX s.hp t.hp/\(zDW t.next t.env&&zGR t.next t.hp&&Nat.ble t.next s.next)=true
def rounds (body:St->(Exit->St->Prop)->Prop) (K:Exit->St->Prop):Nat->St->Prop
 | 0,_=>False
 | n+1,st=>body st (fun e s=>match e with
   | .normal=>rounds body K n s
   | e=>K e s)
def j0:Op->Bool
 | .box _ _=>false
 | .alloc _=>false
 | .store _ _ _=>false
 | .makeSlice _ _ _=>false
 | .makeMap _ _=>false
 | .mapUpdate _ _ _ _=>false
 | .insert _ _ _ _=>false
 | .call c=>match c.callee with
   | .value (.func _)=>true
   | .value (.tmp _)=>true
   | .builtin .len=>true
   | .builtin .max=>true
   | .builtin .min=>true
   | _=>false
 | _=>true
def zUt (i:Nat):List Nat->Bool
 | []=>false
 | k::r=>match Nat.beq k i with|true=>true|false=>zUt i r
def AS.free (r:Nat):AS->Bool
 | .own i _ _=> !Nat.beq i r
 | .ptr i _ _=> !Nat.beq i r
 | .pti i _ _=> !Nat.beq i r
 | .omp i=> !Nat.beq i r
 | .arr i _=> !Nat.beq i r
 | _=>true
def AV.free (r:Nat):AV->Bool
 | .s a=>a.free r
 | .agg l=>l.all (AS.free r)
 | .tup l=>l.all fun v=>match v with
   | .s a=>a.free r
   | .agg l=>l.all (AS.free r)
   | .tup _=>false
def Ob.free (r:Nat):Ob->Bool
 | .flat _ cs=>cs.all (AS.free r)
 | .fr _ l=>l.all fun x=>x.2.free r
 | _=>true
def zD8 (r:Nat):jJ->Bool
 | []=>true
 | (i,o)::l=>(Nat.beq i r|| o.free r)&&zD8 r l
def zDl (o:Oper):Option (Operand×Operand×Tmp) :=
 match o.op,o.guard,o.dst with
 | .call c,none,some d=>match c.callee,c.args.toList with
   | .builtin .append,[x,y]=>some (x,y,d)
   | _,_=>none
 | _,_,_=>none
def slotsOf (ops:Array Oper) (o:Oper):List Tmp:=o.op.operands.toList.filterMap (fun x=>match x with|.tmp t=>some t|_=>none)++(match o.guard with
 | some (j,_)=>match ops[j]? with
   | some o'=>match o'.dst with
     | some d=>[d]
     | none=>[]
   | none=>[]
 | none=>[])
def zSQ (f:Nat) (o:Oper):Bool:=o.after.toList.any fun e=>(match e.ground with|.textOnly _=>false|.gcOnly _=>false|_=>true)&&Nat.beq e.on f
def zVy (ops:Array Oper) (f:Nat) (d:Tmp):List Oper->Nat
 | []=>0
 | o::l=>match j0 o.op&& !zUt d (slotsOf ops o)&&(match o.dst with|some d'=> !Nat.beq d d'|none=>true)&& !zSQ f o with
   | true=>zVy ops f d l+1
   | false=>0
def zLc (ops:Array Oper):List Oper->Nat->Option (Nat×Nat)
 | [],_=>none
 | o ::l,f=>match zDl o with
   | some (_,_,d)=>match zVy ops f d l with
     | 0=>none
     | m=>some (f,m)
   | none=>zLc ops l (f+1)
def zBt (ops:Array Oper) (r:Nat) (env:Env) (o:Oper):Bool:=(slotsOf ops o).all fun t=>(yZ env t).free r
def zCl (r:Nat) (env:Env) (o:Oper):Bool:=match o.dst with
 | some d=>(yZ env d).free r
 | none=>true
def zZw (T:Tab) (r:Nat) (ops:Array Oper):List Oper->St->(St->Prop)->Prop
 | [],st,K=>K st
 | o ::l,st,K=>match zBt ops r st.env o with
   | true=>zAN T true ops [o] st fun st'=>match zCl r st'.env o with
     | true=>zZw T r ops l st' K
     | false=>False
   | false=>False
def z5m (T:Tab) (ops:Array Oper) (f m:Nat) (st:St) (K:St->Prop):Prop :=
 match ops[f]? with
 | some oF=>match zDl oF with
   | some (x,_,_)=>zAN T true ops (ops.toList.take f) st fun st1=>match y7 st1.env x with
     | .s (.own r _ _)=>zZw T r ops ((ops.toList.drop (f+1)).take m) st1 fun st2=>match zD8 r st2.hp with
       | true=>zAN T true ops [oF] st2 fun st3=>zAN T true ops (ops.toList.drop (f+1+m)) st3 K
       | false=>False
     | _=>False
   | none=>False
 | none=>False
def zUf (ops:Array Oper) (k:Nat):Option Nat:=match ops[k]? with
 | some o=>match zDl o with
   | some (_,_,d)=>match zVy ops k d (ops.toList.drop (k+1)) with
     | 0=>none
     | m=>some m
   | none=>none
 | none=>none
def zF2 (a b:Option Res) (K:Prop):Prop:=match a,b with
 | some (none,none,v),some (none,none,v')=>v=v'/\K
 | some (none,some q,v),some (none,some q',v')=>v=v'/\q=q'/\K
 | some (some p,none,v),some (some p',none,v')=>v=v'/\p=p'/\K
 | _,_=>False
theorem zF2.out {a b:Option Res} {K:Prop} (h:zF2 a b K):a=b/\K:=by
 unfold zF2 at h;split at h
 ·obtain ⟨rfl,h⟩:=h;exact ⟨rfl,h⟩
 ·obtain ⟨rfl,rfl,h⟩:=h;exact ⟨rfl,h⟩
 ·obtain ⟨rfl,rfl,h⟩:=h;exact ⟨rfl,h⟩
 ·exact h.elim
def zRv (T:Tab) (r1:Nat) (hp1:jJ) (ops:Array Oper):List Oper->St->(St->Prop)->Prop
 | [],st,K=>K st
 | o ::l,st,K=>match zBt ops r1 st.env o with
   | true=>zF2 (jO T o.op (y7 st.env) hp1) (jO T o.op (y7 st.env) st.hp) (zAN T true ops [o] st fun st'=>match zCl r1 st'.env o with
     | true=>zRv T r1 hp1 ops l st' K
     | false=>False)
   | false=>False
def zQy (T:Tab) (r1 r2:Nat) (hp1 hp2:jJ) (ops:Array Oper):List Oper->St->(St->Prop)->Prop
 | [],st,K=>K st
 | o ::l,st,K=>match zBt ops r1 st.env o&&zBt ops r2 st.env o with
   | true=>zF2 (jO T o.op (y7 st.env) hp1) (jO T o.op (y7 st.env) st.hp) (zF2 (jO T o.op (y7 st.env) hp2) (jO T o.op (y7 st.env) st.hp) (zAN T true ops [o] st fun st'=>match zCl r1 st'.env o&&zCl r2 st'.env o with
     | true=>zQy T r1 r2 hp1 hp2 ops l st' K
     | false=>False))
   | false=>False
def z4H (T:Tab) (ops:Array Oper) (f m m2:Nat) (st:St) (K:St->Prop):Prop :=
 match ops[f]?,ops[f+1+m]? with
 | some o1,some o2=>match zDl o1,zDl o2 with
   | some (x1,_,_),some (x2,_,_)=>zAN T true ops (ops.toList.take f) st fun st1=>match y7 st1.env x1,zCG T o1 st1 with
     | .s (.own r1 _ _),some (_,_,s1)=>zBo (fun hp1=>zRv T r1 hp1 ops ((ops.toList.drop (f+1)).take m) st1 fun st2=>match y7 st2.env x2,zCG T o2 ⟨st2.env,hp1,st2.next⟩ with
       | .s (.own r2 _ _),some (_,_,s2)=>match zBt ops r1 st2.env o2 with
         | true=>zBo (fun hp2=>zQy T r1 r2 hp1 hp2 ops ((ops.toList.drop (f+1+m+1)).take m2) st2 fun st3 =>
            zAN T true ops [o1] st3 fun st4=>zAN T true ops [o2] st4 fun st5=>st5.forceAll fun st5=>zAN T true ops (ops.toList.drop (f+1+m+1+m2)) st5 K) s2.hp
         | false=>False
       | _,_=>False) s1.hp
     | _,_=>False
   | _,_=>False
 | _,_=>False
def Ob.still:Ob->Bool
 | .gmap _ _ _=>false
 | .grow _ _ _=>false
 | _=>true
def zGM (id:Nat):jJ->Bool
 | []=>true
 | (i,o)::r=>(Nat.beq i id|| o.still)&&zGM id r
def z6y:Op->Bool
 | .move _=>true
 | .load _ _=>true
 | .build _ _=>true
 | .buildSlice _ _ _=>true
 | .field _ _ _=>true
 | .fieldAddr _ _ _=>true
 | .indexAddr _ _ _=>true
 | .index _ _ _=>true
 | .binOp _ _ _ _ _=>true
 | _=>false
inductive z8u where
 | upd
 | ent
 | cell
structure zNK where
 kind:z8u
 id:Nat
 t:Tmp
 h:Tmp
 kc:List AS
def z0G (T:Tab) (mt:TypeId) (st:St) (x key:AV):Option (Nat×List AS×Ob) :=
 match x,key.flat,T.desc mt with
 | .s (.omp id),some kc,.map kt u=>match T.info kt,T.info u,hget st.hp id with
   | some ki,some ui,some (.gmap k e m)=>match zOm ki.ety k&&zOm ui.ety (.sl e)&&(key.isAgg==k.isAgg),k.dec kc with
     | true,some q=>some (id,kc,.gmap k e (zAB k m q ((jS k m q).getD [])))
     | _,_=>none
   | _,_,_=>none
 | _,_,_=>none
def zXu (T:Tab):List Oper->St->Option (zNK×St×List Oper)
 | ⟨some t,.lookup mt x kx false,_,_,_,none⟩::r,st=>match z0G T mt st (y7 st.env x) (y7 st.env kx) with
   | some (id,kc,_)=>some (⟨.upd,id,t,t,kc⟩,st.put (some t) .junk,r)
   | none=>none
 | ⟨some h,.mapEntry mt x kx,_,_,_,none⟩::⟨some t,.extract (.tmp h') 0,_,_,_,none⟩::r,st=>match z0G T mt st (y7 st.env x) (y7 st.env kx),Nat.beq h h',Nat.beq h t with
   | some (id,kc,ob),true,false=>some (⟨.ent,id,t,h,kc⟩,(({st with hp:=zA6 st.hp id ob} :St).put (some h) .junk).put (some t) .junk,r)
   | _,_,_=>none
 | ⟨some t,.load et x,_,_,_,none⟩::r,st=>match y7 st.env x,T.info et with
   | .s (.ptr id i 0),some ti=>match hget st.hp id,zAE ti.desc,Nat.beq ti.size 1 with
     | some (.grow _ _ _),false,true=>some (⟨.cell,id,t,t,[.int .i64 i]⟩,st.put (some t) .junk,r)
     | _,_,_=>none
   | _,_=>none
 | _,_=>none
def z1r (T:Tab) (g:zNK):List Oper->St->(St->Oper->List Oper->Prop)->Prop
 | [],_,_=>False
 | o ::r,st,K=>match zDl o with
   | some _=>K st o r
   | none=>match z6y o.op,o.guard,o.dst with
     | true,none,some d=>match Nat.beq d g.t|| Nat.beq d g.h with
       | false=>match jY T o st with
         | some (none,none,st')=>st'.force fun st'=>z1r T g r st' K
         | some (some p,none,st')=>zPL p (st'.force fun st'=>z1r T g r st' K)
         | some (none,some q,st')=>zMk q (st'.force fun st'=>z1r T g r st' K)
         | some (some p,some q,st')=>zPL p (zMk q (st'.force fun st'=>z1r T g r st' K))
         | none=>False
       | true=>False
     | _,_,_=>False
def z7g (T:Tab) (e:ETy) (ts:List TypeId) (src:AV) (hp:jJ):Option (Nat×List e.T) :=
 match ts,src.view hp with
 | [t, t'],.s (.sl e' (y::ys))=>match Nat.beq t t',T.desc t,decEq e' e with
   | true,.slice u,.isTrue h=>match T.info u with
     | some ui=>match Nat.beq ui.bytes 0,Nat.beq ui.size e.size,Nat.beq ui.size 0 with
       | false,true,false=>some (ui.bytes,h▸(y::ys))
       | _,_,_=>none
     | none=>none
   | _,_,_=>none
 | _,_=>none
def zWk (o:Oper):List TypeId :=
 match o.op with
 | .call c=>c.argTypes.toList
 | _=>[]
def zBT (n m b:Nat):Prop:=((n:Int)+m)*b<=140737488355328
def z8c (T :Tab) (g:zNK) (oA:Oper) (r:List Oper) (st:St):Option (Prop×St×List Oper) :=
 match zDl oA,zGM g.id st.hp with
 | some (.tmp t,y,s),true=>match Nat.beq t g.t,Nat.beq s g.h,hget st.hp g.id with
   | true, false,some (.gmap k e m)=>match k.dec g.kc,z7g T e (zWk oA) (y7 st.env y) st.hp with
     | some q,some (b,ys)=>match g.kind,r with
       | .upd,⟨d,.mapUpdate mt x kx (.tmp s'),_,_,_,none⟩::r'=>match z0G T mt st (y7 st.env x) (y7 ((s,.junk)::st.env) kx),Nat.beq s s',y7 ((s,.junk)::st.env) x with
         | some (id,kc,_),true,.s (.omp id')=>match k.dec kc,Nat.beq id g.id,Nat.beq id' g.id with
           | some q',true,true=>some (zBT ((jS k m q).getD []).length ys.length b/\q'=q,(({st with hp:=zA6 st.hp g.id (.gmap k e (zAB k m q ((jS k m q).getD []++ys)))} :St).put (some s) .junk).put d .undef,r')
           | _,_,_=>none
         | _,_,_=>none
       | .ent,⟨some n,.extract (.tmp h) 1,_,_,_,none⟩::⟨d,.entryStore _ x (.tmp n') (.tmp s'),_,_,_,none⟩::r'=>match Nat.beq h g.h&&Nat.beq n n'&&Nat.beq s s',Nat.beq n s,y7 ((n,.junk)::(s,.junk)::st.env) x with
         | true,false,.s (.omp id)=>match Nat.beq id g.id with
           | true=>some (zBT ((jS k m q).getD []).length ys.length b,((({st with hp:=zA6 st.hp g.id (.gmap k e (zAB k m q ((jS k m q).getD []++ys)))} :St).put (some s) .junk).put (some n) .junk).put d .undef,r')
           | false=>none
         | _,_,_=>none
       | _,_=>none
     | _,_=>none
   | true, false,some (.grow e u xss)=>match g.kc,z7g T e (zWk oA) (y7 st.env y) st.hp with
     | [.int .i64 i],some (b,ys)=>match g.kind,r with
       | .cell,⟨some n,.indexAddr tt x ix,_,_,_,none⟩::⟨d,.store et (.tmp n') (.tmp s'),_,_,_,none⟩::r'=>match Nat.beq n n'&&Nat.beq s s',Nat.beq n s,zA3 T tt st.hp (y7 ((s,.junk)::st.env) x) (y7 ((s,.junk)::st.env) ix) (Operand.lit ix) with
         | true,false,some (none,some q,.s (.ptr id j 0))=>match Nat.beq id g.id,Nat.beq (T.sizeOf et) 1 with
           | true,true=>some (zBT (xss.getD i.toNat []).length ys.length b/\q/\j=i.toNat,((({st with hp:=zA6 st.hp g.id (.grow e u (xss.set j (xss.getD j []++ys)))} :St).put (some s) .junk).put (some n) .junk).put d .undef,r')
           | _,_=>none
         | _,_,_=>none
       | _,_=>none
     | _,_=>none
   | _,_,_=>none
 | _,_=>none
def zQk:List Oper->Nat->Option (Nat×Tmp)
 | [],_=>none
 | o::r,n=>match zDl o with
   | some (.tmp t,_,_)=>some (n,t)
   | _=>zQk r (n+1)
def zM3 (t:Tmp):List Oper->Nat->Option Nat->Option Nat
 | [],_,a=>a
 | o ::r,n,a=>match o.dst with
   | some d=>match Nat.beq d t with
     | true=>zM3 t r (n+1) (some n)
     | false=>zM3 t r (n+1) a
   | none=>zM3 t r (n+1) a
def z8r (l:List Oper):Option Nat :=
 match zQk l 0 with
 | some (j,t)=>match zM3 t (l.take j) 0 none with
   | some i=>match (l.drop i).head? with
     | some o=>match o.op,i with
       | .lookup _ _ _ false,i=>some i
       | .load _ _,i=>some i
       | .extract _ 0,i+1=>some i
       | _,_=>none
     | none=>none
   | none=>none
 | none=>none
def z3K (T:Tab) (ops:Array Oper) (l:List Oper) (st:St) (K:St->Prop):Prop :=
 match zXu T l st with
 | some (g,st1,r)=>st1.force fun st1=>z1r T g r st1 fun st2 oA r2=>match z8c T g oA r2 st2 with
   | some (q,st3,r3)=>zMk q (st3.force fun st3=>zAN T false ops r3 st3 K)
   | none=>False
 | none=>zAN T false ops l st K
def z5M (T:Tab) (ops:Array Oper) (st:St) (K:St->Prop):Prop :=
 match z8r ops.toList with
 | some i=>zAN T false ops (ops.toList.take i) st fun st=>z3K T ops (ops.toList.drop i) st K
 | none=>zAN T false ops ops.toList st K
def waits (ops:Array Oper) (j i:Nat):Bool:=match ops[j]? with
 | some o=>o.after.any fun e=>Region.binds .any e&&e.on==i
 | none=>false
def twl (ops:Array Oper) (i:Nat):Nat->List Nat->Bool
 | 0,_=>false
 | n+1,acc=>match acc.any (fun a=>waits ops a (i+n)) with
   | true=>Nat.beq n 0|| twl ops i n ((i+n)::acc)
   | false=>twl ops i n acc
def zHT (ops:Array Oper) (j i:Nat):Bool:=twl ops i (j - i) [j]
def zCs (ops:Array Oper):Nat->Nat->Array Bool->Bool
 | 0,_,listed=>(Region.ready .any ops listed).isEmpty
 | m+1,t,listed=>(Region.ready .any ops listed==[t])&&zCs ops m (t+1) (listed.setIfInBounds t true)
def zCT (ops:Array Oper):Nat->List Nat->Bool
 | 0,_=>true
 | i+1,acc=>match acc.any (fun j=>waits ops j i) with
   | true=>zCT ops i (i::acc)
   | false=>false
def z0E:Op->Bool
 | .alloc _=>true
 | .box _ _=>true
 | .makeMap _ none=>true
 | .makeSlice _ _ _=>true
 | _=>false
def zKp (o:Oper):List Tmp:=o.op.operands.toList.filterMap fun x=>match x with|.tmp t=>some t|_=>none
def zVg (ops:Array Oper) (k i:Nat):Bool:=match ops[i]? with
 | some o=>o.guard.isNone&&o.dst.isSome&&(j0 o.op|| z0E o.op)&&(o.after.toList.all fun e=> !Region.binds .any e|| Nat.blt e.on i) &&
    (List.range k).all fun j=>match ops[j]? with
      | some oj=>match oj.dst with
        | some d=>(Nat.beq j i|| !(o.dst==some d))&&(!(zKp o).contains d|| (Nat.blt j i&&zHT ops i j))
        | none=>true
      | none=>true
 | none=>false
def zHr:List Oper->Nat
 | []=>0
 | o::l=>match (j0 o.op|| z0E o.op)&&o.guard.isNone&&o.dst.isSome with|true=>zHr l+1|false=>0
def zRV (ops:Array Oper) (k:Nat):Bool :=
 Nat.ble k ops.size&&((List.range k).all (zVg ops k)&&((List.range ops.size).all (fun j=>Nat.blt j k|| zCT ops j [j]) &&
  zCs ops (ops.size - k) k ((List.range k).foldl (fun l i=>l.setIfInBounds i true) (Array.replicate ops.size false))))
def zFK (T:Tab) (op:Op) (ev:Operand->AV):Option (Option Prop×Ob×(Nat->AS)) :=
 match op with
 | .call c=>match c.callee with
   | .value (.func f)=>match zFP T.fr f with
     | some (.res g)=>match (c.args.toList.map ev).all AV.clear,g (c.args.toList.map ev) with
       | true,some (none,q,.s (.own 0 0 n),[.row e u xs])=>some (q,.row e u xs,fun i=> .own i 0 n)
       | _,_=>none
     | _=>none
   | _=>none
 | _=>none
def St.mk' (st:St) (d:Option Tmp) (ob:Ob) (ref:Nat->AS):St:=({st with hp:=(st.next,ob)::st.hp,next:=st.next+1} :St).put d (.s (ref st.next))
def zID (T:Tab):List Oper->Bool
 | []=>false
 | o ::l=>match o.op with
   | .call c=>match c.callee with
     | .value (.func f)=>match zFP T.fr f with
       | some (.res _)=>true
       | _=>zID T l
     | _=>zID T l
   | _=>zID T l
def zIl (T:Tab) (ops:Array Oper):Nat->List Oper->St->(St->Prop)->Prop
 | k+1,o::l,st,K=>match zFK T o.op (y7 st.env) with
   | some (none,ob,ref)=>(st.mk' o.dst ob ref).force fun st=>zIl T ops k l st K
   | some (some q,ob,ref)=>zMk q ((st.mk' o.dst ob ref).force fun st=>zIl T ops k l st K)
   | none=>zSI T true o st fun st=>zIl T ops k l st K
 | _,l,st,K=>zAN T true ops l st K
def zHU (b:Bool) (p:Prop):Prop:=b=true/\p
theorem zHU.intro {b:Bool} {p:Prop} (h:b=true) (h':p):zHU b p:=⟨h,h'⟩
theorem zHU.out {b:Bool} {p:Prop} (h:zHU b p):b=true/\p:=h
attribute [irreducible] zHU
def twB (ops:Array Oper) (i:Nat):Nat->List Nat->Bool
 | 0,_=>false
 | n+1,acc=>match acc.any (fun a=>match ops[a]? with|some o=>zSQ (i+n) o|none=>false) with
   | true=>Nat.beq n 0|| twB ops i n ((i+n)::acc)
   | false=>twB ops i n acc
def zBQ (ops:Array Oper) (j i:Nat):Bool:=twB ops i (j - i) [j]
def z8Q (ops:Array Oper) (f:Nat):Nat->Bool
 | 0=>true
 | i+1=>match zBQ ops f i with
   | true=>z8Q ops f i
   | false=>false
def storeAt (ops:Array Oper):List Oper->Nat->Option Nat
 | [],_=>none
 | o ::l,f=>match j0 o.op with
   | true=>storeAt ops l (f+1)
   | false=>match o.op,o.guard,o.dst with
     | .store _ _ _,none,none=>match z8Q ops f f with
       | true=>none
       | false=>some f
     | _,_,_=>none
def zJd (T:Tab) (hpF:jJ) (ops:Array Oper) (f:Nat):Nat->List Oper->St->(St->Prop)->Prop
 | _,[],st,K=>K st
 | i,o::l,st,K=>match zBQ ops f i with
   | true=>zAN T true ops [o] st fun st'=>zJd T hpF ops f (i+1) l st' K
   | false=>zF2 (jO T o.op (y7 st.env) hpF) (jO T o.op (y7 st.env) st.hp) (zAN T true ops [o] st fun st'=>zJd T hpF ops f (i+1) l st' K)
def z9K (ops:Array Oper):Nat->List Oper->Nat
 | _,[]=>0
 | i,o::l=>match j0 o.op with
   | true=>match z8Q ops i i with
     | true=>0
     | false=>z9K ops (i+1) l+1
   | false=>0
def z5k (T:Tab) (ops:Array Oper) (f m:Nat) (st:St) (K:St->Prop):Prop :=
 match ops[f]? with
 | some oF=>zAN T true ops (ops.toList.take f) st fun st1=>match zCG T oF st1 with
   | some (_,_,s1)=>zBo (fun hpF=>zJd T hpF ops f 0 (ops.toList.take f) st fun st2=>match zCG T oF st2 with
     | some (none,none,s2)=>s2.hp=hpF/\zJd T hpF ops f (f+1) ((ops.toList.drop (f+1)).take m) st2 fun st3=>(⟨st3.env,hpF,st3.next⟩:St).force fun st4=>zAN T true ops (ops.toList.drop (f+1+m)) st4 K
     | _=>False) s1.hp
   | none=>False
 | none=>False
def z0n (ops:Array Oper):List Oper->Nat->Option Nat
 | [],_=>none
 | o ::l,f=>match j0 o.op with
   | true=>z0n ops l (f+1)
   | false=>match zDl o with
     | some _=>match z8Q ops f f with
       | true=>none
       | false=>some f
     | none=>none
def zXc (T:Tab) (r:Nat) (ops:Array Oper) (f:Nat):Nat->List Oper->St->(St->Prop)->Prop
 | _,[],st,K=>K st
 | i,o::l,st,K=>match zBQ ops f i with
   | true=>zAN T true ops [o] st fun st'=>zXc T r ops f (i+1) l st' K
   | false=>match zBt ops r st.env o with
     | true=>zAN T true ops [o] st fun st'=>match zCl r st'.env o with
       | true=>zXc T r ops f (i+1) l st' K
       | false=>False
     | false=>False
def z3T (T:Tab) (ops:Array Oper) (f:Nat) (st:St) (K:St->Prop):Prop :=
 match ops[f]? with
 | some oF=>match zDl oF with
   | some (x,_,_)=>zAN T true ops (ops.toList.take f) st fun st1=>match y7 st1.env x with
     | .s (.own r _ _)=>zXc T r ops f 0 (ops.toList.take f) st fun st2=>match y7 st2.env x with
       | .s (.own r' _ _)=>match Nat.beq r' r,zD8 r st2.hp with
         | true,true=>zAN T true ops [oF] st2 fun st3=>zAN T true ops (ops.toList.drop (f+1)) st3 K
         | _,_=>False
       | _=>False
     | _=>False
   | none=>False
 | none=>False
def z2M (n:Nat) (K:Nat->Prop):Prop:=match n with
 | 0=>K 0
 | 1=>K 1
 | 2=>K 2
 | 3=>K 3
 | 4=>K 4
 | 5=>K 5
 | 6=>K 6
 | 7=>K 7
 | 8=>K 8
 | 9=>K 9
 | 10=>K 10
 | 11=>K 11
 | 12=>K 12
 | 13=>K 13
 | 14=>K 14
 | 15=>K 15
 | 16=>K 16
 | 17=>K 17
 | 18=>K 18
 | 19=>K 19
 | 20=>K 20
 | 21=>K 21
 | 22=>K 22
 | 23=>K 23
 | 24=>K 24
 | 25=>K 25
 | 26=>K 26
 | 27=>K 27
 | 28=>K 28
 | 29=>K 29
 | 30=>K 30
 | 31=>K 31
 | 32=>K 32
 | 33=>K 33
 | 34=>K 34
 | 35=>K 35
 | 36=>K 36
 | 37=>K 37
 | 38=>K 38
 | 39=>K 39
 | 40=>K 40
 | n=>K n
theorem zPJ (n:Nat) (K:Nat->Prop):z2M n K=K n:=by unfold z2M;split<;>rfl
def zPr (T:Tab) (ops:Array Oper) (draw:Bool) (st:St) (K:St->Prop):Prop :=
 match draw with
 | true=>match zLc ops ops.toList 0 with
   | some (f,m)=>z2M f fun f=>z2M m fun m=>match zUf ops (f+1+m) with
     | some m2=>z2M m2 fun m2=>z4H T ops f m m2 st K
     | none=>z5m T ops f m st K
   | none=>match zID T ops.toList with
     | false=>match z0n ops ops.toList 0 with
       | some f=>z2M f fun f=>z3T T ops f st K
       | none=>match storeAt ops ops.toList 0 with
         | some f=>z2M f fun f=>z2M (z9K ops (f+1) (ops.toList.drop (f+1))) fun m=>z5k T ops f m st K
         | none=>zAN T true ops ops.toList st K
     | true=>zHU (zRV ops (zHr ops.toList)) (zIl T ops (zHr ops.toList) ops.toList st K)
 | false=>z5M T ops st K
def zA8 (T:Tab):Code->St->(Exit->St->Prop)->Prop
 | .skip,st,K=>K .normal st
 | .label _,st,K=>K .normal st
 | .region _ ops draw,st,K=>zPr T ops draw st (K .normal)
 | .seq a b,st,K=>zA8 T a st (fun e s=>match e with
   | .normal=>zA8 T b s K
   | e=>K e s)
 | .cond c a b,st,K=>match y7 st.env c with
   | .s (.bool t)=>BIf t (zA8 T a st K) (zA8 T b st K)
   | .s (.nq false _ xs)=>z01 (zPL (xs=[]) (zA8 T a st K)) (zA8 T b st K)
   | .s (.nq true _ xs)=>z01 (zA8 T a st K) (zPL (xs=[]) (zA8 T b st K))
   | _=>False
 | .block id c,st,K=>zA8 T c st (fun e s=>match e with
   | .exit i=>match Nat.beq i id with|true=>K .normal s|false=>K (.exit i) s
   | e=>K e s)
 | .loop c,st,K=>(∃ n,rounds (zA8 T c) K n st)\/(∃ (X:Type) (S:Spec X),zHc T (fun st=>(∃ x,S.inv x/\zOs st (S.head st x))/\
    ∀ x,S.inv x->(S.head st x).forceAll fun h=>zA8 T c h (fun e s=>match e with
      | .normal=> ∃ y,S.inv y/\zOs s (S.head st y)/\S.mu y<S.mu x
      | e=>K e s)) S.nils st)
 | .exit i,st,K=>K (.exit i) st
 | .goto l,st,K=>K (.goto l) st
 | .ret,st,K=>K .ret st
 | .scope c,st,K=>zA8 T c st K
 | _,_,_=>False
def zHQ:Nat->List AV->Env
 | _,[]=>[]
 | i,v::r=>(i,v)::zHQ (i+1) r
def St.init (args:List AV):St:= {env:=zHQ 0 args,hp:=[],next:=0}
def zGQ (T:Tab) (st:St):ResultVar->AV
 | .tmp t=>(yZ st.env t).viewT T st.hp
 | .cell a t=>match yZ st.env a with
   | .s (.ptr id i k)=>match zL3 T t st.hp (.s (.ptr id i k)) with
     | some (none,none,v)=>v.viewT T st.hp
     | _=> .junk
   | _=> .junk
def zGU (T:Tab) (st:St):ResultVar->Bool
 | .tmp _=>true
 | .cell a t=>match yZ st.env a with
   | .s (.ptr id i k)=>match zL3 T t st.hp (.s (.ptr id i k)) with
     | some (none,none,_)=>true
     | _=>false
   | _=>false
def zKo (T:Tab) (fn:Func) (st:St):AV :=
 match fn.results.toList with
 | [r]=>zGQ T st r
 | rs=> .tup (rs.map (zGQ T st))
def post (T:Tab) (fn:Func) (R:AV->Prop):Exit->St->Prop
 | .normal,st=>match fn.results.toList.all (zGU T st) with
   | true=>(zKo T fn st).force R
   | false=>False
 | .ret,st=>match fn.results.toList.all (zGU T st) with
   | true=>(zKo T fn st).force R
   | false=>False
 | _,_=>False
def AV.parts:AV->List AS
 | .s a=>[a]
 | .agg l=>l
 | .tup l=>l.flatMap fun v=>match v with
   | .s a=>[a]
   | .agg l=>l
   | .tup _=>[]
def zAv:List AS->List Nat
 | []=>[]
 | .own i _ _::r=>i::zAv r
 | _::r=>zAv r
def nodupB:List Nat->Bool
 | []=>true
 | k::r=> !zUt k r&&nodupB r
def zQg (i:Nat):List Nat->Nat->Option Nat
 | [],_=>none
 | k::r,n=>match Nat.beq k i with|true=>some n|false=>zQg i r (n+1)
def zTE (ids:List Nat):AS->AS
 | .own i s k=>match zQg i ids 0 with|some n=> .own n s k|none=> .junk
 | .ptr _ _ _=> .junk
 | .pti _ _ _=> .junk
 | .omp _=> .junk
 | .arr _ _=> .junk
 | a=>a
def Ob.isRow:Ob->Bool
 | .row _ _ _=>true
 | _=>false
def zMZ (hp:jJ):List Nat->Bool
 | []=>true
 | i::r=>match hget hp i with
   | some o=>o.isRow&&zMZ hp r
   | none=>false
def zJj (hp:jJ):List Nat->List Ob
 | []=>[]
 | i::r=>match hget hp i with
   | some o=>o::zJj hp r
   | none=>zJj hp r
def zEW (T:Tab) (st:St):ResultVar->AV
 | .tmp t=>yZ st.env t
 | .cell a t=>match yZ st.env a with
   | .s (.ptr id i k)=>match zL3 T t st.hp (.s (.ptr id i k)) with
     | some (none,none,v)=>v
     | _=> .junk
   | _=> .junk
def zAW (T:Tab) (fn:Func) (st:St):AV :=
 match fn.results.toList with
 | [r]=>zEW T st r
 | rs=> .tup (rs.map (zEW T st))
def zJq:List Nat->Env->Env
 | _,[]=>[]
 | s,(t,v)::r=>match zUt t s with
   | true=>zJq s r
   | false=>(t,match v with|.tup _=> .junk|v=>v)::zJq (t::s) r
def zSA (T:Tab) (fn:Func) (id:Nat) (X:Array Value) (s:St) (K:AV->St->Prop):Prop :=
 match fn.results.toList.all (zGU T s),hget s.hp id with
 | true,some (.fr X' l)=>X'=X/\(zAW T fn s).force fun v=>(⟨l,zDU s.hp id,s.next⟩:St).forceAll fun s'=>K v s'
 | _,_=>False
def zR3 (T:Tab) (fn:Func) (args:List AV) (st:St) (K:AV->St->Prop):Prop :=
 match fn.body,Nat.ble args.length fn.ntmps with
 | some c,true=> ∀ X:Array Value,(⟨zHQ 0 args,(st.next,.fr X (zJq [] st.env))::st.hp,st.next+1⟩:St).forceAll fun s0=>zA8 T c s0 fun e s=>match e with
   | .normal=>zSA T fn st.next X s K
   | .ret=>zSA T fn st.next X s K
   | _=>False
 | _,_=>False
def zS5 (T:Tab) (fn:Func) (R:AV->List Ob->Prop):Exit->St->Prop
 | .normal,st=>match fn.results.toList.all (zGU T st)&&(nodupB (zAv (zAW T fn st).parts)&&zMZ st.hp (zAv (zAW T fn st).parts)) with
   | true=>((zAW T fn st).mapAS (zTE (zAv (zAW T fn st).parts))).force fun v=>R v (zJj st.hp (zAv (zAW T fn st).parts))
   | false=>False
 | .ret,st=>match fn.results.toList.all (zGU T st)&&(nodupB (zAv (zAW T fn st).parts)&&zMZ st.hp (zAv (zAW T fn st).parts)) with
   | true=>((zAW T fn st).mapAS (zTE (zAv (zAW T fn st).parts))).force fun v=>R v (zJj st.hp (zAv (zAW T fn st).parts))
   | false=>False
 | _,_=>False
def zFB (T:Tab) (fn:Func) (args:List AV) (R:AV->List Ob->Prop):Prop :=
 match fn.body with
 | some c=>(St.init args).forceAll fun s=>zA8 T c s (zS5 T fn R)
 | none=>False
def zAG (T:Tab) (fn:Func) (args:List AV) (R:AV->Prop):Prop :=
 match fn.body with
 | some c=>(St.init args).forceAll fun s=>zA8 T c s (post T fn R)
 | none=>False
end Go.Vm
