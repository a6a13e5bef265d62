/- Texts of this session, put together. -/
import Derived.Calls
import Derived.Laws.Externs
import Derived.Orders
import Derived.Laws.AppendOwn
import Derived.BigRegion
import Derived.Laws.StructEq
import Derived.Laws.Entries
import Derived.Laws.Slices
import Derived.Deep.MidRow
import Derived.Below
import Derived.Laws.Tables
import Derived.Laws.IdiomStrings
import Derived.Laws.OwnMore
section
set_option linter.unusedSimpArgs false
set_option linter.unusedVariables false
namespace Go.Proofs.YtehakimmioclkaaGreatDoor.Mach
open Go
section
noncomputable section
mutual
inductive CTy | int (k:IntKind) | bool | str | slice (e:ETy)
inductive ETy | one (t:CTy) | more (t:CTy) (e:ETy)
end
mutual
def CTy.D : CTy→Type
 | .int _=>Int | .bool=>Bool | .str=>ByteArray | .slice e=>List e.D
def ETy.D : ETy→Type
 | .one t=>t.D | .more t e=>t.D × e.D
end
mutual
def CTy.beq : CTy→CTy→Bool
 | .int k, .int k' => decide (k=k')
 | .bool, .bool=>true
 | .str, .str=>true
 | .slice e, .slice e' => ETy.beq e e'
 | _,_=>false
def ETy.beq : ETy→ETy→Bool
 | .one t, .one t' => CTy.beq t t'
 | .more t e, .more t' e' => CTy.beq t t' && ETy.beq e e'
 | _,_=>false
end
mutual
theorem CTy.eq_of_beq : ∀ {t t' : CTy},CTy.beq t t' = true→t=t'
 | .int k, .int k', h=>by simp only [CTy.beq,decide_eq_true_eq] at h; rw [h]
 | .bool, .bool,_=>rfl
 | .str, .str,_=>rfl
 | .slice e, .slice e', h=>by rw [ETy.eq_of_beq (t:=e) (t' := e') (by simpa [CTy.beq] using h)]
 | .int _, .bool,h | .int _, .str,h | .int _, .slice _,h | .bool, .int _,h | .bool, .str,h | .bool, .slice _,h
 | .str, .int _,h | .str, .bool,h | .str, .slice _,h | .slice _, .int _,h | .slice _, .bool,h | .slice _, .str,h=>by simp [CTy.beq] at h
theorem ETy.eq_of_beq : ∀ {t t' : ETy},ETy.beq t t' = true→t=t'
 | .one t, .one t', h=>by rw [CTy.eq_of_beq (t:=t) (t' := t') (by simpa [ETy.beq] using h)]
 | .more t e, .more t' e', h=>by
   simp only [ETy.beq,Bool.and_eq_true] at h
   rw [CTy.eq_of_beq h.1,ETy.eq_of_beq h.2]
 | .one _, .more _ _,h | .more _ _, .one _,h=>by simp [ETy.beq] at h
end
mutual
def CTy.dflt : (t:CTy)→t.D
 | .int _=>(0:Int) | .bool=>false | .str=>ByteArray.empty | .slice _=>[]
def ETy.dflt : (t:ETy)→t.D
 | .one t=>t.dflt | .more t e=>(t.dflt,e.dflt)
end
def ETy.size : ETy→Nat
 | .one _=>1 | .more _ e=>e.size+1
def fL (e e' : ETy) (l:List e'.D):Option (List e.D):=if h:ETy.beq e' e=true then some (ETy.eq_of_beq h ▸ l) else none
inductive AV : Type
 | undef
 | int (k:IntKind) (n:Int)
 | bool (b:Bool)
 | str (s:ByteArray)
 | imm (e : ETy) (l : List e.D)          -- a slice that is only read
 | own (id : Nat)                        -- the whole slice of a local array
 | win (id : Nat) (off len : Nat)        -- a part of one
 | nils                                  -- the nil slice
 | ptr (id off : Nat)                    -- a cell of a local variable
 | elt (id : Nat) (i : Int) (off : Nat)  -- a cell of an element of a local array
 | parr (id : Nat)                       -- a local variable that is an array
 | adr (cs : List AV)                    -- cells that are only read, from here on
 | nilp
 | agg (cs:List AV)
 | tup (vs:List AV)
 | fn (f:FuncId) (caps:List AV)
 | raw (v:Value)
inductive aA : Type
 | typed (e:ETy) (xs:List e.D) (fz:Bool)
 | box (cs:List AV)
 | dead
inductive fB : Type
 | leaf
 | node (x:AV) (a b:fB)
structure Env where
 lim:Nat
 t:fB
structure St where
 env:Env
 H:List aA
def gG (t:fB):Nat→AV:=fB.rec (fun _=>AV.undef) (fun x _ _ iha ihb n=>Nat.rec x (fun m _=>Nat.rec (iha (m / 2)) (fun _ _=>ihb (m / 2)) (m % 2)) n) t
def dU (t:fB):Nat→AV→fB:=fB.rec (fun _ _ => .leaf) (fun x a b iha ihb n v=>Nat.rec (.node v a b) (fun m _=>Nat.rec (.node x (iha (m / 2) v) b) (fun _ _ => .node x a (ihb (m / 2) v)) (m % 2)) n) t
def iN (d:Nat):fB:=Nat.rec .leaf (fun _ t => .node .undef t t) d
def c5 (e:Env) (i:Nat):AV:=bif Nat.blt i e.lim then gG e.t i else .undef
def c6 (e:Env) (i:Nat) (v:AV):Env:=bif Nat.blt i e.lim then ⟨e.lim,dU e.t i v⟩ else e
def nth {α:Type} (l:List α):Nat→Option α:=List.rec (fun _=>none) (fun x _ ih n=>Nat.rec (some x) (fun m _=>ih m) n) l
def c7 {α:Type} (l:List α):Nat→α→List α:=List.rec (fun _ _=>[]) (fun x r ih n v=>Nat.rec (v :: r) (fun m _=>x :: ih m v) n) l
def aE9 (l:List AV):Nat→AV:=List.rec (fun _=>AV.undef) (fun x _ ih n=>Nat.rec x (fun m _=>ih m) n) l
def aF (l:List aA):Nat→aA:=List.rec (fun _=>aA.dead) (fun x _ ih n=>Nat.rec x (fun m _=>ih m) n) l
def jU : (t:CTy)→t.D→AV
 | .int k,n => .int k n
 | .bool,b => .bool b
 | .str,s => .str s
 | .slice e,l => .imm e l
def dD : (e:ETy)→e.D→List AV
 | .one t,x=>[jU t x]
 | .more t e,x=>jU t x.1 :: dD e x.2
def tH : Value→Bool
 | .slice _ 0 _=>true
 | _=>false
def fS (H:List aA) (e:ETy):AV→Option (List e.D)
 | .imm e' l=>fL e e' l
 | .own id=>match aF H id with | .typed e' xs _=>fL e e' xs | _=>none
 | .win id off len=>match aF H id with | .typed e' xs _=>(fL e e' xs).map fun l=>(l.drop off).take len | _=>none
 | .nils=>some []
 | .raw v=>bif tH v then some [] else none
 | _=>none
def asI (k:IntKind):AV→Option Int
 | .int k' n=>if decide (k=k')=true then some n else none
 | _=>none
def asB : AV→Option Bool
 | .bool b=>some b
 | _=>none
def asS : AV→Option ByteArray
 | .str s=>some s
 | _=>none
def aAG (H:List aA) (t:CTy) (x:AV):Option t.D:=match t with
 | .int k=>asI k x
 | .bool=>asB x
 | .str=>asS x
 | .slice e=>fS H e x
def gH (H:List aA):(e:ETy)→List AV→Option e.D
 | .one t,cs=>(match cs with | x :: r=>(match r with | []=>aAG H t x | _ :: _=>none) | []=>none)
 | .more t e,cs=>(match cs with | x :: r=>(match aAG H t x,gH H e r with | some a,some b=>some (a,b) | _,_=>none) | []=>none)
def fC : AV→List Nat
 | .own id=>[id]
 | .win id _ _=>[id]
 | _=>[]
def bM (cs:List AV):List Nat:=List.rec [] (fun x _ ih=>fC x ++ ih) cs
def freeze1 (H:List aA) (id:Nat):List aA:=match aF H id with | .typed e xs _=>c7 H id (.typed e xs true) | _=>H
def freezeAt (H:List aA) (l:List Nat):List aA:=List.rec (fun H=>H) (fun id _ ih H=>ih (freeze1 H id)) l H
def repTy : Nat→CTy→Option ETy
 | 1,t=>some (.one t)
 | 2,t=>some (.more t (.one t))
 | 3,t=>some (.more t (.more t (.one t)))
 | 4,t=>some (.more t (.more t (.more t (.one t))))
 | _,_=>none
def kU (P:Program) (d:Nat) (t:TypeId):Option ETy :=
 match d with
 | 0=>none
 | d + 1=>match P.underlying t with
   | some (.int k)=>some (.one (.int k))
   | some .bool=>some (.one .bool)
   | some .string=>some (.one .str)
   | some (.slice e)=>(kU P d e).map fun e => .one (.slice e)
   | some (.struct fs)=>fs.toList.foldr (fun f (acc:Option (Option ETy))=>match acc,kU P d f.type with
       | some none,some e=>some (some e)
       | some (some r),some (.one t)=>some (some (.more t r))
       | some (some r),some (.more t (.one u))=>some (some (.more t (.more u r)))
       | some (some r),some (.more t (.more u (.one v)))=>some (some (.more t (.more u (.more v r))))
       | _,_=>none) (some none) |>.join
   | some (.array n e)=>match kU P d e with | some (.one t)=>repTy n t | _=>none
   | _=>none
def jB : Nat→Value→AV
 | 0,_ => .undef
 | d+1,v=>match v with
   | .int k n => .int k n
   | .bool b => .bool b
   | .string s => .str s
   | .slice none 0 0 => .nils
   | .pointer none => .nilp
   | .agg cs => .agg (cs.toList.map (jB d))
   | .tuple cs => .tup (cs.toList.map (jB d))
   | .func (.func f) ⟨[]⟩ ⟨[]⟩ => .fn f []
   | v => .raw v
def iO : CTy→Value→Bool
 | .int k, .int k' n=>decide (k=k') && decide (n=0)
 | .bool, .bool b => !b
 | .str, .string s=>decide (s.size=0)
 | .slice _, .slice none 0 0=>true
 | _,_=>false
def fD : ETy→List Value→Bool
 | .one t,[v]=>iO t v
 | .more t e,v :: r=>iO t v && fD e r
 | _,_=>false
def aAH (P:Program) (e:TypeId):Bool:=match kU P 8 e,P.info? e with
 | some et,some i=>(match i.zero with | some z=>fD et z.cells.toList && decide (z.cells.size=i.size) | none=>false)
 | _,_=>false
def pK (e:ETy):Nat→List Value→Bool
 | 0,l=>l.isEmpty
 | n+1,l=>fD e (l.take e.size) && pK e n (l.drop e.size)
def aFA (P:Program) (t:TypeId) (n:Nat) (e:TypeId):Bool:=match kU P 8 e,P.info? t,P.info? e with
 | some et,some i,some j=>(match i.zero with | some z=>pK et n z.cells.toList && decide (j.size=et.size) && decide (n≤9223372036854775807) | none=>false)
 | _,_,_=>false
inductive SK | int | str | bool
def kV (P:Program) (t:TypeId):Option SK:=match P.underlying t with
 | some (.int _)=>some .int
 | some .string=>some .str
 | some .bool=>some .bool
 | _=>none
def pL (P:Program):List Field→Nat→Option (List SK)
 | [],_=>some []
 | f :: fs, i => if f.name = "_" ∨ f.offset ≠ i then none else match kV P f.type, pL P fs (i + 1) with
   | some k,some l=>some (k :: l)
   | _,_=>none
def tI (P:Program) (t:TypeId):Option (List SK):=match P.underlying t with
 | some (.struct fs)=>(match pL P fs.toList 0 with | some l=>bif P.stoodInHeld t || P.eqGuardType P.depth t then none else some l | none=>none)
 | some (.array n e)=>(match kV P e with | some k=>bif decide (n≤8) && (decide ((P.info? e).map (·.size)=some 1) && !P.eqGuardType P.depth t) then some (List.replicate n k) else none | none=>none)
 | _=>none
inductive fT | int (k:IntKind) | str | bytes | bool | slice | pointer | arr | other
structure TyT where
 okay : Bool                -- the type is p8
 agg:Bool
 size:Nat
 kind:fT
 elem : Option ETy          -- a slice's elements
 bytes : Nat                -- their size in memory
 esize : Nat                -- their cells (of an array's, too)
 zero:Option (List AV)
 fields:List (Nat × TypeId)
 arr:Option (Nat × ETy)
 fok : Bool                 -- a struct, and its fields' types are p8
 ezok : Bool                -- the elements' zero is the one of 'dflt'
 elts : List (Nat × TypeId) -- of a short array
 aok:Bool
 eqk:Option (List SK)
structure FnT where
 body:Code
 n:Nat
 res:List ResultVar
structure Tab where
 ty:List (Nat × TyT)
 fn:List (Nat × FnT)
 ext : List (Nat × Nat)     -- functions of the library without a body: 1 is bytealg.IndexByteString
def find {α:Type} (l:List (Nat × α)):Nat→Option α:=List.rec (fun _=>none) (fun p _ ih n=>Bool.rec (ih n) (some p.2) (Nat.beq p.1 n)) l
def aY (P:Program) (t:TypeId):TyT :=
 { okay:=(P.underlying t).isSome && (P.info? t).isSome
   agg:=match P.underlying t with | some (.struct _)=>true | some (.array _ _)=>true | _=>false
   size:=P.cellsOf t
   kind:=match P.underlying t with
    | some (.int k) => .int k
    | some .string => .str
    | some (.slice e)=>(match P.underlying e with | some (.int .u8) => .bytes | _ => .slice)
    | some .bool => .bool
    | some (.pointer _) => .pointer
    | some (.array _ _) => .arr
    | _ => .other
   elem:=match P.underlying t with | some (.slice e)=>kU P 8 e | _=>none
   bytes:=match P.underlying t with | some (.slice e)=>P.bytesOf e | _=>0
   esize:=match P.underlying t with | some (.slice e)=>P.cellsOf e | some (.array _ e)=>P.cellsOf e | _=>0
   zero:=match (P.info? t).bind (·.zero) with
    | some (.agg cs)=>some (cs.toList.map (jB 3))
    | some v=>some [jB 3 v]
    | none=>none
   fields:=match P.underlying t with | some (.struct fs)=>fs.toList.map fun f=>(f.offset,f.type) | _=>[]
   arr:=match P.underlying t with | some (.array n e)=>(kU P 8 e).map fun e=>(n,e) | _=>none
   fok:=match P.underlying t with | some (.struct fs)=>fs.toList.all fun f=>(P.info? f.type).isSome | _=>false
   ezok:=match P.underlying t with
    | some (.slice e)=>aAH P e
    | some (.array n e)=>aAH P e && aFA P t n e
    | _=>false
   elts:=match P.underlying t with | some (.array n e)=>if n≤16 then (List.range n).map fun i=>(i * P.cellsOf e,e) else [] | _=>[]
   aok:=match P.underlying t with | some (.array n e)=>decide (n≤16) && (P.info? e).isSome | _=>false
   eqk:=tI P t }
def eG (P:Program) (f:FuncId):Option FnT:=match P.funcs[f]? with
 | some fn => (match fn.body with | some c => bif fn.name == "runtime.NumGoroutine" then none else some ⟨c, fn.ntmps, fn.results.toList⟩ | none => none)
 | none=>none
structure bC (P:Program) (T:Tab):Prop where
 ty:∀ t x,find T.ty t=some x→x=aY P t
 fn:∀ f x,find T.fn f=some x→eG P f=some x
 ext : ∀ f, find T.ext f = some 1 → ∃ fn, P.funcs[f]? = some fn ∧ (fn.name == "runtime.NumGoroutine") = false ∧ fn.body.isNone = true ∧ Extern.findNext fn = none ∧ Extern.find fn = some Extern.BytealgIndexByte.indexByte
def aFB (x:TyT):Option (ETy × Nat):=bif x.ezok then (match x.elem with | some e=>some (e,x.bytes) | none=>none) else none
def Tab.row (T:Tab) (t:TypeId):Option (ETy × Nat):=match find T.ty t with | some x=>aFB x | none=>none
def Tab.alen (T:Tab) (t:TypeId):Nat:=match find T.ty t with | some x=>(match x.arr with | some p=>p.1 | none=>0) | none=>0
def Tab.size (T:Tab) (t:TypeId):Nat:=match find T.ty t with | some x=>x.size | none=>0
def Tab.esize (T:Tab) (t:TypeId):Nat:=match find T.ty t with | some x=>x.esize | none=>0
def Tab.kind (T:Tab) (t:TypeId):fT := match find T.ty t with | some x=>x.kind | none => .other
def cellsOf : AV→List AV
 | .agg cs=>cs
 | v=>[v]
def jC : AV→Bool
 | .undef=>false
 | .agg _=>false
 | .tup _=>false
 | .raw (.agg _)=>false
 | .raw (.tuple _)=>false
 | _=>true
def tJ (l:List AV):Bool:=List.rec true (fun x _ ih=>bif jC x then ih else false) l
def gT : AV→Bool
 | .agg cs=>tJ cs
 | v=>jC v
def patch : List AV→Nat→List AV→List AV
 | cs,_,[]=>cs
 | cs,i,v :: r=>patch (c7 cs i v) (i+1) r
def aAI (x:TyT) (cs:List AV):Option AV:=bif x.agg then (bif Nat.ble x.size cs.length then some (.agg (cs.take x.size)) else none) else (match cs with | y :: _=>some y | []=>none)
def whole (T:Tab) (t:TypeId) (cs:List AV):Option AV:=match find T.ty t with
 | some x=>bif x.okay then aAI x cs else none
 | none=>none
inductive OpR
 | fail
 | ok (g:Bool) (v:AV) (H:List aA)
 | call (f:FuncId) (args:List AV)
def aD (env:Env):Operand→AV
 | .tmp t=>c5 env t
 | .const v=>jB 3 v
 | .func f => .fn f []
 | .global _ => .undef
def jV (op:BinOp) (k:IntKind) (a b:Int):Bool × AV :=
 match op with
 | .add=>(true, .int k (k.wrap (a+b)))
 | .sub=>(true, .int k (k.wrap (a - b)))
 | .mul=>(true, .int k (k.wrap (a * b)))
 | .quo=>(!decide (b=0), .int k (k.wrap (a.tdiv b)))
 | .rem=>(!decide (b=0), .int k (a.tmod b))
 | .lss=>(true, .bool (decide (a<b)))
 | .leq=>(true, .bool (decide (a≤b)))
 | .gtr=>(true, .bool (decide (a > b)))
 | .geq=>(true, .bool (decide (a ≥ b)))
 | .eql=>(true, .bool (decide (a=b)))
 | .neq=>(true, .bool (!decide (a=b)))
 | .shl=>(decide (0≤b), .int k (k.wrap (a * 2 ^ (min b.toNat k.bits))))
 | .shr=>(decide (0≤b), .int k (a.fdiv (2 ^ (min b.toNat k.bits))))
 | .and=>(true, .int k (k.wrap ((BitVec.ofInt k.bits a &&& BitVec.ofInt k.bits b).toNat:Int)))
 | .or=>(true, .int k (k.wrap ((BitVec.ofInt k.bits a ||| BitVec.ofInt k.bits b).toNat:Int)))
 | .xor=>(true, .int k (k.wrap ((BitVec.ofInt k.bits a ^^^ BitVec.ofInt k.bits b).toNat:Int)))
 | .andNot=>(true, .int k (k.wrap ((BitVec.ofInt k.bits a &&& ~~~BitVec.ofInt k.bits b).toNat:Int)))
def tK (op:BinOp) (x y:ByteArray):Bool × AV :=
 match op with
 | .add=>(decide (x.size+y.size≤9223372036854775807), .str (x ++ y))
 | .eql=>(true, .bool (x.toList == y.toList))
 | .neq=>(true, .bool (!(x.toList == y.toList)))
 | .lss=>(true, .bool (Op.bytesLess x.toList y.toList))
 | .leq=>(true, .bool (Op.bytesLess x.toList y.toList || x.toList == y.toList))
 | .gtr=>(true, .bool (!(Op.bytesLess x.toList y.toList || x.toList == y.toList)))
 | .geq=>(true, .bool (!Op.bytesLess x.toList y.toList))
 | _=>(false, .undef)
def lenOf (H:List aA):AV→Option Nat
 | .imm _ l=>some l.length
 | .own id=>match aF H id with | .typed _ xs _=>some xs.length | _=>none
 | .win _ _ n=>some n
 | .nils=>some 0
 | .str s=>some s.size
 | .parr id=>match aF H id with | .typed _ xs _=>some xs.length | _=>none
 | _=>none
def jD : AV→Bool
 | .imm _ _=>true
 | .own _=>true
 | .win _ _ _=>true
 | .nils=>true
 | _=>false
def pM (kd:fT) (H:List aA) (op:BinOp) (b:Bool):OpR:=match kd with
 | .slice=>(match op with | .eql => .ok true (.bool b) H | .neq => .ok true (.bool (!b)) H | _ => .fail)
 | .bytes=>(match op with | .eql => .ok true (.bool b) H | .neq => .ok true (.bool (!b)) H | _ => .fail)
 | _ => .fail
def pN (kd:fT) (H:List aA) (op:BinOp) (x y:AV):OpR:=match y with
 | .nils=>bif jD x then (match lenOf H x with
   | some n=>(match kd with
     | .slice=>(match op with | .eql => .ok (Nat.blt 0 n) (.bool false) H | .neq => .ok (Nat.blt 0 n) (.bool true) H | _ => .fail)
     | .bytes=>(match op with | .eql => .ok (Nat.blt 0 n) (.bool false) H | .neq => .ok (Nat.blt 0 n) (.bool true) H | _ => .fail)
     | _ => .fail)
   | none => .fail) else .fail
 | _ => .fail
def mC (kd:fT) (H:List aA) (op:BinOp):AV→AV→OpR
 | .int k a, .int k' b=>match op with
   | .shl=>let r:=jV op k a b; .ok r.1 r.2 H
   | .shr=>let r:=jV op k a b; .ok r.1 r.2 H
   | _=>if decide (k=k')=true then (let r:=jV op k a b; .ok r.1 r.2 H) else .fail
 | .str a, .str b=>let r:=tK op a b; .ok r.1 r.2 H
 | .bool a, .bool b=>match kd,op with
   | .bool, .eql => .ok true (.bool (a == b)) H
   | .bool, .neq => .ok true (.bool (!(a == b))) H
   | _,_ => .fail
 | .nils, .nils=>match kd,op with
   | .slice, .eql => .ok true (.bool true) H
   | .slice, .neq => .ok true (.bool false) H
   | .bytes, .eql => .ok true (.bool true) H
   | .bytes, .neq => .ok true (.bool false) H
   | _,_ => .fail
 | .nilp, .nilp=>match kd,op with | .pointer, .eql => .ok true (.bool true) H | .pointer, .neq => .ok true (.bool false) H | _,_ => .fail
 | .raw (.slice A _ _), .nils=>pM kd H op A.isNone
 | .ptr _ _, .nilp=>match kd,op with | .pointer, .eql => .ok true (.bool false) H | .pointer, .neq => .ok true (.bool true) H | _,_ => .fail
 | x,y=>pN kd H op x y
def mD (s:ByteArray):List Int:=s.data.toList.map fun b=>(b.toNat:Int)
def pO (l:List Int):ByteArray:=⟨(l.map fun n=>UInt8.ofNat n.toNat).toArray⟩
def bnd (d:Int):Option AV→Option Int
 | none=>some d
 | some (.int _ n)=>some n
 | _=>none
def cS (H:List aA) (z:Nat):AV→Bool
 | .imm e _=>Nat.beq e.size z
 | .own id=>match aF H id with | .typed e _ _=>Nat.beq e.size z | _=>false
 | .win id _ _=>match aF H id with | .typed e _ _=>Nat.beq e.size z | _=>false
 | .parr id=>match aF H id with | .typed e _ _=>Nat.beq e.size z | _=>false
 | .nils=>Nat.blt 0 z
 | .ptr _ _=>Nat.beq z 1
 | _=>false
def tL (H:List aA) (l h:Int):AV→OpR
 | .str s => .ok (decide (0≤l) && decide (l≤h) && decide (h≤(s.size:Int))) (.str (s.extract l.toNat h.toNat)) H
 | _ => .fail
def kW (H:List aA) (n:Nat) (l h:Int):AV→OpR
 | .imm e r => .ok (decide (0≤l) && decide (l≤h) && decide (h≤(n:Int))) (.imm e ((r.take h.toNat).drop l.toNat)) H
 | .own id => .ok (decide (0≤l) && decide (l≤h) && decide (h≤(n:Int))) (.win id l.toNat (h.toNat - l.toNat)) H
 | .win id off _ => .ok (decide (0≤l) && decide (l≤h) && decide (h≤(n:Int))) (.win id (off+l.toNat) (h.toNat - l.toNat)) H
 | .nils => .ok (decide (0≤l) && decide (l≤h) && decide (h≤(n:Int))) .nils H
 | _ => .fail
def tM (al:Nat) (H:List aA) (n:Nat) (l h:Int):AV→OpR
 | .parr id => .ok (Nat.beq al n && Nat.blt 0 n && (decide (0≤l) && decide (l≤h) && decide (h≤(n:Int)))) (.win id l.toNat (h.toNat - l.toNat)) H
 | _ => .fail
def aAJ (kd:fT) (z al:Nat) (H:List aA) (x:AV) (n:Nat) (l h:Int):OpR:=match kd with
 | .str=>tL H l h x
 | .slice=>bif cS H z x then kW H n l h x else .fail
 | .bytes=>bif cS H z x then kW H n l h x else .fail
 | .arr=>bif cS H z x then tM al H n l h x else .fail
 | _ => .fail
def aAK (kd:fT) (z al:Nat) (H:List aA) (x:AV) (lo hi:Option AV):OpR:=match lenOf H x with
 | none => .fail
 | some n=>match bnd 0 lo,bnd n hi with
   | some l,some h=>aAJ kd z al H x n l h
   | _,_ => .fail
def eq1 : SK→AV→AV→Option Bool
 | .int, .int k m, .int k' n=>bif decide (k=k') then some (decide (m=n)) else none
 | .str, .str s, .str t=>some (s.toList == t.toList)
 | .bool, .bool a, .bool b=>some (a == b)
 | _,_,_=>none
def jE : List SK→List AV→List AV→Option Bool
 | [],_,_=>some true
 | k :: ks,xs,ys=>(match xs,ys with
   | x :: xs,y :: ys=>(match eq1 k x y,jE ks xs ys with
     | some a,some b=>some (bif a then b else false)
     | _,_=>none)
   | _,_=>none)
def aAL (ks:Option (List SK)) (H:List aA) (op:BinOp) (xs ys:List AV):OpR:=match ks with
 | some ks=>(match jE ks xs ys with
   | some b=>(match op with | .eql => .ok true (.bool b) H | .neq => .ok true (.bool (!b)) H | _ => .fail)
   | none => .fail)
 | none => .fail
def mE (T:Tab) (t:TypeId) (H:List aA) (op:BinOp) (x y:AV):OpR:=match x with
 | .agg xs=>(match y with | .agg ys=>(match find T.ty t with | some z=>aAL z.eqk H op xs ys | none => .fail) | _ => .fail)
 | x=>mC (T.kind t) H op x y
def fits (n b:Nat):Bool:=bif Nat.ble n 9223372036854775807 then Nat.ble (n * b) 140737488355328 else false
def jF (H:List aA) (id:Option Nat):List aA:=match id with | some i=>c7 H i .dead | none=>H
def aAM (n b:Nat):Bool:=bif Nat.ble n 9223372036854775807 then Nat.ble (n * b) 281474976710656 else false
def kX (H:List aA) (id:Option Nat) (e:ETy) (b:Nat) (xs ys:List e.D):OpR :=
 .ok (fits (xs.length+ys.length) b) (.own H.length) (jF H id ++ [.typed e (xs ++ ys) false])
def aAN (H:List aA) (e:ETy) (b:Nat) (s:AV) (ys:List e.D):OpR:=match s with
 | .nils=>kX H none e b [] ys
 | .own id=>(match aF H id with
   | .typed e' l false=>(match fL e e' l with | some l=>kX H (some id) e b l ys | none => .fail)
   | _ => .fail)
 | .win id off n=>bif Nat.beq off 0 then (match aF H id with
   | .typed e' l false=>(match fL e e' l with | some l=>kX H (some id) e b (l.take n) ys | none => .fail)
   | _ => .fail) else .fail
 | _ => .fail
def tN (T:Tab) (H:List aA) (t:TypeId) (s x:AV):OpR:=match T.row t with
 | some p=>(match fS H p.1 x with | some ys=>aAN H p.1 p.2 s ys | none => .fail)
 | none => .fail
def kY (H:List aA) (x:AV):OpR:=bif jD x then (match lenOf H x with | some n => .ok true (.int .i64 (n:Int)) H | none => .fail) else .fail
def aAO (H:List aA):AV→OpR
 | .str s => .ok true (.int .i64 (s.size:Int)) H
 | _ => .fail
def jW (kd:fT) (H:List aA) (x:AV):OpR:=match kd with
 | .str=>aAO H x
 | .slice=>kY H x
 | .bytes=>kY H x
 | _ => .fail
def tO (H:List aA):AV→OpR
 | .nils => .ok true (.int .i64 0) H
 | _ => .fail
def capR (kd:fT) (H:List aA) (x:AV):OpR:=match kd with
 | .slice=>tO H x
 | .bytes=>tO H x
 | _ => .fail
def aAP (H:List aA):AV→AV→OpR
 | .int k a, .int _ b => .ok true (.int k (if b<a then b else a)) H
 | _,_ => .fail
def aAQ (H:List aA):AV→AV→OpR
 | .int k a, .int _ b => .ok true (.int k (if b > a then b else a)) H
 | _,_ => .fail
def two (f:AV→AV→OpR) (xs:List AV):OpR:=match xs with
 | x :: r=>(match r with | y :: q=>(match q with | []=>f x y | _ => .fail) | [] => .fail)
 | [] => .fail
def mF (f:AV→OpR) (xs:List AV):OpR:=match xs with
 | x :: r=>(match r with | []=>f x | _ => .fail)
 | [] => .fail
def pP (T:Tab) (H:List aA) (b:Builtin) (ts:List TypeId) (xs:List AV):OpR :=
 match b with
 | .len=>(match ts with | t :: _=>mF (jW (T.kind t) H) xs | [] => .fail)
 | .append=>(match ts with | t :: r=>(match r with | u :: q=>(match q with | []=>bif Nat.beq t u then two (tN T H t) xs else .fail | _ => .fail) | [] => .fail) | [] => .fail)
 | .cap=>(match ts with | t :: _=>mF (capR (T.kind t) H) xs | [] => .fail)
 | .max=>two (aAQ H) xs
 | .min=>two (aAP H) xs
 | _ => .fail
def okV (H:List aA) (x:Option AV):OpR:=match x with
 | some v => .ok true v H
 | none => .fail
def mG (e:ETy) (xs:List e.D):Nat→Nat→List AV
 | 0,_=>[]
 | n+1,i=>dD e (xs.getD i e.dflt) ++ mG e xs n (i+1)
def kZ (T:Tab) (H:List aA) (t:TypeId) (e:ETy) (xs:List e.D):OpR:=match whole T t (mG e xs (T.alen t) 0) with
 | some v => .ok (Nat.beq xs.length (T.alen t)) v H
 | none => .fail
def jG (H:List aA) (e:ETy):Nat→List AV→Option (List e.D)
 | 0,cs=>(match cs with | []=>some [] | _ :: _=>none)
 | n+1,cs=>(match gH H e (cs.take e.size),jG H e n (cs.drop e.size) with
   | some x,some r=>some (x :: r)
   | _,_=>none)
def iP (T:Tab) (H:List aA) (t:TypeId):AV→OpR
 | .ptr id off=>match aF H id with | .box cs=>okV H (whole T t (cs.drop off)) | _ => .fail
 | .elt id i off=>match aF H id with | .typed e xs _=>okV H (whole T t ((dD e (xs.getD i.toNat e.dflt)).drop off)) | _ => .fail
 | .adr cs=>okV H (whole T t cs)
 | .parr id=>match aF H id with | .typed e xs _=>kZ T H t e xs | _ => .fail
 | _ => .fail
def tP (cs:List AV) (off:Nat) (new:List AV) (z:Nat):Option (List AV):=bif Nat.blt 0 z && Nat.beq new.length z then (bif Nat.ble (off+new.length) cs.length then some (patch cs off new) else none) else none
def tQ (H:List aA) (id:Nat) (v:AV) (cs:Option (List AV)):OpR:=match cs with
 | some cs => .ok (gT v) .undef (c7 H id (.box cs))
 | none => .fail
def tR (H:List aA) (id:Nat) (e:ETy) (xs:List e.D) (i:Nat) (v:AV) (cs:Option (List AV)):OpR:=match cs with
 | some cs=>(match gH H e cs with
   | some y=>bif (bM (cellsOf v)).contains id then .fail else .ok (gT v) .undef (c7 (freezeAt H (bM (cellsOf v))) id (.typed e (xs.set i y) false))
   | none => .fail)
 | none => .fail
def tS (H:List aA) (id:Nat) (e:ETy) (xs:List e.D) (n z:Nat) (v:AV):OpR:=bif Nat.blt 0 z && (Nat.beq (cellsOf v).length z && Nat.beq (n * e.size) z) then (match jG H e n (cellsOf v) with
 | some ys=>bif (bM (cellsOf v)).contains id then .fail else .ok (gT v && Nat.beq xs.length n) .undef (c7 (freezeAt H (bM (cellsOf v))) id (.typed e ys false))
 | none => .fail) else .fail
def k3 (T:Tab) (H:List aA) (t:TypeId) (v:AV):AV→OpR
 | .ptr id off=>(match aF H id with | .box cs=>tQ H id v (tP cs off (cellsOf v) (T.size t)) | _ => .fail)
 | .elt id i off=>(match aF H id with
   | .typed e xs false=>tR H id e xs i.toNat v (tP (dD e (xs.getD i.toNat e.dflt)) off (cellsOf v) (T.size t))
   | _ => .fail)
 | .parr id=>(match aF H id with
   | .typed e xs false=>tS H id e xs (T.alen t) (T.size t) v
   | _ => .fail)
 | _ => .fail
def k4 (H:List aA) (x:AV) (i:Int):OpR:=match x with
 | .imm e l => .ok (decide (0≤i) && decide (i<(l.length:Int))) (.adr (dD e (l.getD i.toNat e.dflt))) H
 | .own id=>match aF H id with | .typed _ xs _ => .ok (decide (0≤i) && decide (i<(xs.length:Int))) (.elt id i 0) H | _ => .fail
 | .win id off n => .ok (decide (0≤i) && decide (i<(n:Int))) (.elt id (off+i) 0) H
 | _ => .fail
def mH (al:Nat) (H:List aA) (x:AV) (i:Int):OpR:=match x with
 | .parr id=>(match aF H id with | .typed _ xs _ => .ok (Nat.beq al xs.length && (decide (0≤i) && decide (i<(xs.length:Int)))) (.elt id i 0) H | _ => .fail)
 | .ptr id off => .ok (decide (0≤i) && decide (i<(al:Int))) (.ptr id (off+i.toNat)) H
 | _ => .fail
def mI (kd:fT) (z al:Nat) (H:List aA) (x i:AV):OpR:=match i with
 | .int _ i=>match kd with
   | .slice=>bif cS H z x then k4 H x i else .fail
   | .bytes=>bif cS H z x then k4 H x i else .fail
   | .arr=>bif cS H z x then mH al H x i else .fail
   | _ => .fail
 | _ => .fail
def aFC (T:Tab) (p:Nat × TypeId):Option (Nat × TypeId):=match find T.ty p.2 with
 | some x=>bif Nat.blt 0 x.size then some p else none
 | none=>none
def pQ (T:Tab) (s:TypeId) (f:Nat):Option (Nat × TypeId):=match find T.ty s with
 | some x=>(match nth x.fields f with | some p=>aFC T p | none=>none)
 | none=>none
def pR (T:Tab) (fs:List (Nat × TypeId)):List (Nat × AV)→List AV→Option (List AV)
 | [],cs=>some cs
 | p :: r,cs=>match nth fs p.1 with
   | some f=>(match find T.ty f.2 with
     | some x=>bif gT p.2 then (bif Nat.beq (cellsOf p.2).length x.size then (bif Nat.ble (f.1+(cellsOf p.2).length) cs.length then pR T fs r (patch cs f.1 (cellsOf p.2)) else none) else none) else none
     | none=>none)
   | none=>none
def jH (T:Tab) (H:List aA) (x:TyT) (fs:List (Nat × TypeId)) (parts:List (Nat × AV)):OpR:=match x.zero with
 | some z=>(match pR T fs parts z with | some cs => .ok true (.agg cs) H | none => .fail)
 | none => .fail
def mJ (T:Tab) (H:List aA) (t:TypeId) (parts:List (Nat × AV)):OpR:=match find T.ty t with
 | some x=>bif x.fok then jH T H x x.fields parts else bif x.aok then jH T H x x.elts parts else .fail
 | none => .fail
def pS (H:List aA) (e:ETy):List (Nat × AV)→Nat→Option (List e.D)
 | [],_=>some []
 | p :: r,k=>bif Nat.beq p.1 k then (bif gT p.2 then (match gH H e (cellsOf p.2) with
     | some x=>(match pS H e r (k+1) with | some l=>some (x :: l) | none=>none)
     | none=>none) else none) else none
def jX (l:List (Nat × AV)):List Nat:=List.rec [] (fun x _ ih=>bM (cellsOf x.2) ++ ih) l
def pT (T:Tab) (H:List aA) (src dst:TypeId) (x:AV):OpR :=
 match T.kind dst with
 | .int k=>(match x with | .int _ n => .ok true (.int k (k.wrap n)) H | _ => .fail)
 | .str=>(match x with
   | .int _ n => .ok true (.str (Utf8.encode n)) H
   | .str s => .ok true (.str s) H
   | x=>(match T.kind src with
     | .bytes=>(match fS H (.one (.int .u8)) x with | some l => .ok true (.str (pO l)) H | none => .fail)
     | _ => .fail))
 | .bytes=>(match T.kind src,x with | .str, .str s => .ok (decide (s.size≤9223372036854775807)) (.imm (.one (.int .u8)) (mD s)) H | _,_ => .fail)
 | _ => .fail
def gU (T:Tab) (H:List aA) (src dst:TypeId) (x:AV):OpR:=match find T.ty src with
 | some y=>bif y.okay then pT T H src dst x else .fail
 | none => .fail
def unR (H:List aA):UnOp→AV→OpR
 | .not, .bool b => .ok true (.bool (!b)) H
 | .neg, .int k n => .ok true (.int k (k.wrap (0 - n))) H
 | _,_ => .fail
def mK (kd:fT) (H:List aA) (x i:AV):OpR:=match kd,x,i with
 | .str, .str s, .int _ i => .ok (decide (0≤i) && decide (i<(s.size:Int))) (.int .u8 (s.data.toList.getD i.toNat 0).toNat) H
 | _,_,_ => .fail
def mL (T:Tab) (H:List aA) (t:TypeId) (x:AV) (f:Nat):OpR:=match x,pQ T t f with | .agg cs,some (o,u)=>okV H (whole T u (cs.drop o)) | _,_ => .fail
def mM (T:Tab) (H:List aA) (t:TypeId) (x:AV) (f:Nat):OpR:=match x,pQ T t f with
 | .ptr id off,some (o,_) => .ok true (.ptr id (off+o)) H
 | .elt id i off,some (o,_)=>(match aF H id with | .typed e _ _ => .ok (Nat.blt (off+o) e.size) (.elt id i (off+o)) H | _ => .fail)
 | .adr cs,some (o,_) => .ok true (.adr (cs.drop o)) H
 | _,_ => .fail
def mN (H:List aA) (x:TyT):OpR:=match x.zero with | some z => .ok true (.ptr H.length 0) (H ++ [.box z]) | none => .fail
def aAR : ETy→Bool
 | .one (.slice _)=>true
 | _=>false
def aQ6 : AV→Bool
 | .nils=>true
 | _=>false
def aAS (l:List AV):Bool:=List.rec false (fun x _ ih=>bif aQ6 x then true else ih) l
def aAT (H:List aA) (x:TyT):OpR:=match x.arr with
 | some p=>bif aAR p.2 then mN H x else bif x.ezok then .ok true (.parr H.length) (H ++ [.typed p.2 (List.replicate p.1 p.2.dflt) false]) else .fail
 | none=>mN H x
def pU (T:Tab) (H:List aA) (t:TypeId):OpR:=match find T.ty t with
 | some x=>aAT H x
 | none => .fail
def k5 (H:List aA) (v:AV):OpR := .ok (gT v) (.ptr H.length 0) (H ++ [.box (cellsOf v)])
def pV (T:Tab) (H:List aA) (t:TypeId) (v:AV):OpR:=match find T.ty t with
 | some x=>(match x.arr with
   | some p=>bif aAS (cellsOf v) then k5 H v else bif (bM (cellsOf v)).isEmpty then (match jG H p.2 p.1 (cellsOf v) with
    | some ys => .ok (gT v && Nat.ble p.1 9223372036854775807) (.parr H.length) (H ++ [.typed p.2 ys false])
    | none=>k5 H v) else k5 H v
   | none=>k5 H v)
 | none=>k5 H v
def aAU (H:List aA) (e:ETy) (n:Nat) (parts:List (Nat × AV)):OpR:=match pS H e parts 0 with
 | some l => .ok (bif Nat.beq l.length n then Nat.ble (n * e.size) 16777216 else false) (.own H.length) (freezeAt H (jX parts) ++ [.typed e l false])
 | none => .fail
def pW (T:Tab) (H:List aA) (t:TypeId) (n:Nat) (parts:List (Nat × AV)):OpR:=match T.row t with
 | some p=>aAU H p.1 n parts
 | none => .fail
def aAV (H:List aA) (e:ETy) (b:Nat) (n c:AV):OpR:=match n with
 | .int _ n=>(match c with
   | .int _ c => .ok (decide (0≤n) && decide (n≤c) && aAM c.toNat b) (.own H.length) (H ++ [.typed e (List.replicate n.toNat e.dflt) false])
   | _ => .fail)
 | _ => .fail
def pX (T:Tab) (H:List aA) (t:TypeId) (n c:AV):OpR:=match T.row t with
 | some p=>aAV H p.1 p.2 n c
 | none => .fail
def mO (H:List aA) (c a b:AV):OpR:=match c with
 | .bool t=>match a,b with
   | .bool x, .bool y => .ok true (.bool (bif t then x else y)) H
   | .int k x, .int k' y=>if decide (k=k')=true then .ok true (.int k (bif t then x else y)) H else .fail
   | x,y=>bif t then .ok true x H else .ok true y H
 | _ => .fail
def mP (H:List aA) (x:AV):OpR:=match x with | .ptr i o => .ok true (.ptr i o) H | .parr i => .ok true (.parr i) H | .elt i j o => .ok true (.elt i j o) H | .adr cs => .ok true (.adr cs) H | _ => .fail
def mQ (H:List aA) (x:AV) (i:Nat):OpR:=match x with | .tup vs => .ok (Nat.blt i vs.length) (aE9 vs i) H | _ => .fail
def pY (H:List aA) (x y:AV):OpR:=match x with
 | .str s=>(match y with | .int k c=>if decide (k = .u8)=true then .ok true (.int .i64 (firstIdx s c.toNat.toUInt8)) H else .fail | _ => .fail)
 | _ => .fail
def pZ (T:Tab) (H:List aA) (x:AV) (args:List AV):OpR:=match x with
 | .fn g caps=>(match find T.ext g with
   | none => .call g (args ++ caps)
   | some k=>bif Nat.beq k 1 then two (pY H) (args ++ caps) else .fail)
 | _ => .fail
def mR (T:Tab) (H:List aA) (env:Env) (c:Callee) (args:List AV) (ts:List TypeId):OpR:=match c with
 | .builtin b=>pP T H b ts args
 | .value f=>pZ T H (aD env f) args
 | .invoke _ _ => .fail
def mS (H:List aA) (x:AV):OpR := .ok true x H
def k6 (H:List aA) (env:Env) (f:Fn) (first:List Operand) (caps:List Operand):OpR:=match f,first with
 | .func f,[] => .ok true (.fn f (caps.map (aD env))) H
 | _,_ => .fail
def k7 (T:Tab) (t:TypeId) (H:List aA) (env:Env) (x:Operand) (lo hi mx:Option Operand):OpR:=match mx with
 | none=>aAK (T.kind t) (T.esize t) (T.alen t) H (aD env x) (lo.map (aD env)) (hi.map (aD env))
 | some _ => .fail
def d9 (env:Env) (parts:Array (Nat × Operand)):List (Nat × AV):=parts.toList.map fun p=>(p.1,aD env p.2)
def opR (T:Tab) (H:List aA) (env:Env) (o:Op):OpR :=
 match o with
 | .move x=>mS H (aD env x)
 | .assign x=>mS H (aD env x)
 | .binOp op t x y _=>mE T t H op (aD env x) (aD env y)
 | .unOp op _ x=>unR H op (aD env x)
 | .convert s d x=>gU T H s d (aD env x)
 | .indexAddr t x i=>mI (T.kind t) (T.esize t) (T.alen t) H (aD env x) (aD env i)
 | .index t x i=>mK (T.kind t) H (aD env x) (aD env i)
 | .load t a=>iP T H t (aD env a)
 | .store t a v=>k3 T H t (aD env v) (aD env a)
 | .slice t x lo hi mx=>k7 T t H env x lo hi mx
 | .field t x f=>mL T H t (aD env x) f
 | .fieldAddr t x f=>mM T H t (aD env x) f
 | .alloc t=>pU T H t
 | .box t v=>pV T H t (aD env v)
 | .build t parts=>mJ T H t (d9 env parts)
 | .buildSlice t n parts=>pW T H t n (d9 env parts)
 | .makeSlice t n c=>pX T H t (aD env n) (aD env c)
 | .makeFunc f first caps=>k6 H env f first.toList caps.toList
 | .extract t i=>mQ H (aD env t) i
 | .pick c a b=>mO H (aD env c) (aD env a) (aD env b)
 | .nilCheck x=>mP H (aD env x)
 | .call c=>mR T H env c.callee (c.args.toList.map (aD env)) c.argTypes.toList
 | _ => .fail
def tT (id:Nat) (l:List Item):Option (List Item):=List.rec none (fun x k ih=>match x with | .inBlock j=>bif Nat.beq j id then some k else ih | _=>ih) l
def b8 (env:Env) (d:Option Tmp) (v:AV):Env:=match d with
 | some d=>c6 env d v
 | none=>env
def p8 (st:St) (c:Operand) (b:Bool):St:=match c with | .tmp t=>⟨c6 st.env t (.bool b),st.H⟩ | _=>st
abbrev cC := FuncId→List AV→List aA→Bool→(AV→List aA→Prop)→Prop
def p9 (g:Bool) (x:Prop):Prop:=bif g then x else False
def opK (callK:cC) (keep:Bool) (H:List aA) (K:AV→List aA→Prop) (r:OpR):Prop:=match r with
 | .fail=>False
 | .ok g v H=>p9 g (K v H)
 | .call f args=>callK f args H keep K
def way (env:Env) (d:Tmp) (want:Bool) (go skip:Env→Prop) (x:AV):Prop:=match x with
 | .bool b=>match want with
   | true=>bif b then go (c6 env d (.bool true)) else skip (c6 env d (.bool false))
   | false=>bif b then skip (c6 env d (.bool true)) else go (c6 env d (.bool false))
 | .tup _=>skip env
 | _=>False
def aAW (env:Env) (want:Bool) (go skip:Env→Prop) (o:Option Oper):Prop:=match o with
 | some o=>(match o.dst with | some d=>way env d want go skip (c5 env d) | none=>False)
 | none=>False
def jY (all:List Oper) (env:Env) (g:Option (Nat × Bool)) (go skip:Env→Prop):Prop:=match g with
 | none=>go env
 | some p=>aAW env p.2 go skip (nth all p.1)
def tU (T:Tab) (callK:cC) (all:List Oper) (K:St→Prop) (l:List Oper):Env→List aA→Prop :=
 List.rec (fun env H=>K ⟨env,H⟩) (fun o _ ih env H=>jY all env o.guard
  (fun env=>opK callK false H (fun v H=>ih (b8 env o.dst v) H) (opR T H env o.op))
  (fun env=>ih (b8 env o.dst (.tup [])) H)) l
def tV (T:Tab) (st:St):ResultVar→Option AV
 | .tmp t=>some (c5 st.env t)
 | .cell a t=>match iP T st.H t (c5 st.env a) with | .ok true v _=>some v | _=>none
def qA (T:Tab) (st:St):List ResultVar→Option (List AV)
 | []=>some []
 | r :: rs=>match tV T st r,qA T st rs with
   | some v,some vs=>some (v :: vs)
   | _,_=>none
def aI (T:Tab) (rs:List ResultVar) (K:AV→List aA→Prop) (st:St):Prop:=match qA T st rs with
 | none=>False
 | some vs=>match vs with
   | [v]=>K v st.H
   | vs=>K (.tup vs) st.H
def aAX (st:St) (c:Operand) (x y:St→Prop) (v:AV):Prop:=match v with
 | .bool b=>bif b then x (p8 st c true) else y (p8 st c false)
 | _=>False
def aAY (go:List Item→St→Prop) (st:St) (k:Option (List Item)):Prop:=match k with
 | some k=>go k st
 | none=>False
def fM : Op→Bool
 | .move _=>true
 | .assign _=>true
 | .binOp _ _ _ _ _=>true
 | .unOp _ _ _=>true
 | .convert _ _ _=>true
 | .indexAddr _ _ _=>true
 | .index _ _ _=>true
 | .load _ _=>true
 | .slice _ _ _ _ _=>true
 | .field _ _ _=>true
 | .fieldAddr _ _ _=>true
 | .build _ _=>true
 | .makeFunc _ _ _=>true
 | .extract _ _=>true
 | .pick _ _ _=>true
 | .nilCheck _=>true
 | .call c=>(match c.callee with | .builtin .len=>true | _=>false)
 | _=>false
def iQ : Op→Bool
 | .alloc _=>true
 | .box _ _=>true
 | .makeSlice _ _ _=>true
 | .call c=>(match c.callee with | .value _=>true | _=>false)
 | _=>false
def jI : Op→Bool
 | .buildSlice _ _ _=>true
 | _=>false
def mT : Op→Bool
 | .convert _ _ _=>true
 | _=>false
def fU : Op→Option Operand
 | .store _ a _=>some a
 | _=>none
def qB (tgt x:AV):Bool:=match tgt with
 | .elt _ _ _=>(match x with | .elt _ _ _=>true | .parr _=>true | _=>false)
 | .ptr j _=>(match x with | .ptr i _=>Nat.beq i j | _=>false)
 | _=>false
def aAZ : AV→Bool
 | .int _ _=>true
 | .str _=>true
 | _=>false
def iR (tgt:AV) (env:Env):Op→Bool
 | .load _ x=>qB tgt (aD env x)
 | .convert _ _ x => !aAZ (aD env x)
 | _=>false
def fE : Op→Option Operand
 | .call c=>(match c.callee with
   | .builtin b=>(match b with | .append=>(match c.args.toList with | a :: _=>some a | []=>none) | _=>none)
   | _=>none)
 | _=>none
def aFD (o:Oper) (k:Nat):Bool:=o.after.toList.any fun e=>bif Region.binds .any e then Nat.beq e.on k else false
def c8 (all:List Oper) (j k:Nat):Bool:=match nth all j with | some o=>aFD o k | none=>true
def gI (all:List Oper) (i:Nat):Bool:=match nth all i with | some o=>fM o.op | none=>false
def aA0 (all:List Oper) (i:Nat):Bool:=match nth all i with | some o=>(match fU o.op with | some _=>true | none=>false) | none=>false
def aA1 (all:List Oper) (i:Nat):Bool:=match nth all i with | some o=>(match fE o.op with | some _=>true | none=>false) | none=>false
def aA2 (all:List Oper) (i:Nat):Bool:=match nth all i with | some o=>iQ o.op | none=>false
def aA3 (all:List Oper) (i:Nat):Bool:=match nth all i with | some o=>jI o.op | none=>false
def qC (all:List Oper) (i:Nat):Bool:=match nth all i with | some o=>mT o.op | none=>true
def k8 (all:List Oper) (U:List Nat) (i:Nat):Bool:=U.all fun k => !c8 all i k
def mU (all:List Oper) (U:List Nat):Option Nat:=U.find? fun i=>bif gI all i then k8 all U i else false
def without (U:List Nat) (i:Nat):List Nat:=U.filter fun k => !Nat.beq k i
def mV (all:List Oper) (i:Nat):Bool:=match nth all i with
 | some x=>(match x.dst with
   | none=>true
   | some d=>(List.range all.length).all fun k=>match nth all k with
     | some o=>bif (o.looksAt all.toArray).contains d then (bif Nat.beq k i then false else c8 all k i) else true
     | none=>true)
 | none=>false
def tW (all:List Oper) (i j:Nat):Bool:=bif gI all i then (bif (bif gI all j then true else bif aA2 all j then true else bif aA3 all j then !qC all i else bif aA0 all j then mV all i else bif aA1 all j then (bif qC all i then false else mV all i) else false) then (match nth all i,nth all j with | some x,some y=>Oper.apart all.toArray x y | _,_=>false) else false) else true
def iC (all:List Oper) (i j:Nat):Bool:=bif Nat.beq i j then true else bif c8 all i j then true else c8 all j i
def gJ (all:List Oper) (n:Nat):Nat→Nat→Bool:=Nat.rec (fun i j=>c8 all i j) (fun _ ih i j=>bif c8 all i j then true else (List.range all.length).any fun m=>bif c8 all i m then ih m j else false) n
def aA4 (all:List Oper) (n:Nat):Bool:=(List.range n).all fun i=>(List.range n).all fun j=>bif iC all i j then true else bif tW all i j then true else bif gJ all all.length i j then true else gJ all all.length j i
def aA5 (all:List Oper):Bool:=(List.range all.length).all fun i=>match nth all i with
 | some o=>o.after.toList.all fun e=>bif Region.binds .any e then (bif Nat.blt e.on all.length then !Nat.beq e.on i else false) else true
 | none=>false
def mW (all:List Oper):Bool:=bif aA5 all then aA4 all all.length else false
def qD (all:List Oper) (i:Nat):Bool:=(List.range all.length).any fun k => !iC all i k
def tX : AV→Bool
 | .parr _=>true
 | _=>false
def tY : AV→Option Nat
 | .own id=>some id
 | .win id _ _=>some id
 | _=>none
def gK (id:Nat):AV→Bool
 | .own k=>Nat.beq k id
 | .win k _ _=>Nat.beq k id
 | .elt k _ _=>Nat.beq k id
 | .ptr k _=>Nat.beq k id
 | .parr k=>Nat.beq k id
 | _=>false
def qE (id:Nat) (env:Env) (op:Op):Bool:=op.operands.toList.any fun y=>gK id (aD env y)
def aA6 (all:List Oper) (U:List Nat) (i:Nat) (env:Env) (x:AV):Bool:=match tY x with
 | none=>true
 | some id=>(List.range all.length).all fun k=>bif U.contains k then true else bif iC all i k then true else bif gJ all all.length i k then true else (match nth all k with | some o => !qE id env o.op | none=>true)
def iD (all:List Oper) (U:List Nat) (i:Nat) (env:Env) (op:Op):Bool:=match fU op with
 | none=>(match fE op with | none=>true | some a=>aA6 all U i env (aD env a))
 | some a => !tX (aD env a) && (List.range all.length).all fun k=>bif U.contains k then true else bif iC all i k then true else (match nth all k with | some o => !iR (aD env a) env o.op | none=>true)
def cN (T:Tab) (callK:cC) (all:List Oper) (i:Nat) (U:List Nat) (cont:Env→List aA→Prop) (env:Env) (H:List aA):Prop:=match nth all i with
 | some o=>jY all env o.guard
  (fun env=>p9 (iD all U i env o.op) (opK callK (qD all i) H (fun v H=>cont (b8 env o.dst v) H) (opR T H env o.op)))
  (fun env=>cont (b8 env o.dst (.tup [])) H)
 | none=>False
def tZ (l:List Nat) (p:Nat→Prop):Prop:=match l with
 | []=>False
 | i :: r=>(match r with | []=>p i | _ :: _=>List.rec (p i) (fun j _ ih=>p j∧ih) r)
def dV (T:Tab) (callK:cC) (all:List Oper) (K:St→Prop) (n:Nat):List Nat→Env→List aA→Prop :=
 Nat.rec (fun U env H=>match U with | []=>K ⟨env,H⟩ | _ :: _=>False) (fun _ ih U env H=>match U with
    | []=>K ⟨env,H⟩
    | i :: U=>(match mU all (i :: U) with
      | some k=>cN T callK all k (i :: U) (ih (without (i :: U) k)) env H
      | none=>tZ ((i :: U).filter (k8 all (i :: U))) fun k=>cN T callK all k (i :: U) (ih (without (i :: U) k)) env H)) n
def t0 (T:Tab) (callK:cC) (all:List Oper) (K:St→Prop) (env:Env) (H:List aA):Prop:=dV T callK all K all.length (List.range all.length) env H
def aFE (T:Tab) (callK:cC) (go:St→Prop) (st:St) (ops:List Oper) (dr:Bool):Prop:=match dr with
 | false=>tU T callK ops go ops st.env st.H
 | true=>bif mW ops then t0 T callK ops go st.env st.H else False
def codeK (T:Tab) (callK:cC) (fin:St→Prop) (go:List Item→St→Prop) (k:List Item) (st:St) (c:Code):Prop:=match c with
 | .skip=>go k st
 | .region _ ops dr=>aFE T callK (go k) st ops.toList dr
 | .seq a b=>go (.code a :: .code b :: k) st
 | .cond c x y=>aAX st c (go (.code x :: k)) (go (.code y :: k)) (aD st.env c)
 | .block id b=>go (.code b :: .inBlock id :: k) st
 | .loop b=>go (.inLoop b :: k) st
 | .exit id=>aAY go st (tT id k)
 | .ret=>fin st
 | _=>False
def itemK (T:Tab) (callK:cC) (loopK:List Item→St→Prop) (fin:St→Prop) (go:List Item→St→Prop) (k:List Item) (st:St) (i:Item):Prop:=match i with
 | .inBlock _=>go k st
 | .inLoop c=>loopK (.inLoop c :: k) st
 | .code c=>codeK T callK fin go k st c
 | _=>False
def aFF (T:Tab) (callK:cC) (loopK:List Item→St→Prop) (fin:St→Prop) (go:List Item→St→Prop) (todo:List Item) (st:St):Prop:=match todo with
 | []=>fin st
 | i :: k=>itemK T callK loopK fin go k st i
def aH (T:Tab) (callK:cC) (loopK:List Item→St→Prop) (fin:St→Prop) (n:Nat):List Item→St→Prop :=
 Nat.rec (fun _ _=>False) (fun _ ih=>aFF T callK loopK fin ih) n
def aA7 (l:List AV):Env→Nat→Env:=List.rec (fun e _=>e) (fun x _ ih e n=>ih (c6 e n x) (n+1)) l
def aP (n:Nat) (args:List AV):Env:=aA7 args ⟨n,iN (bif Nat.blt n 62 then 6 else bif Nat.blt n 126 then 7 else bif Nat.blt n 254 then 8 else 11)⟩ 0
def t6 (a b:Int):Bool:=decide (a=b)
def mX (a b:Bool):Bool:=a == b
def t7 (a b:ByteArray):Bool:=decide (a.data.toList=b.data.toList)
def eqL {α:Type} (f:α→α→Bool):List α→List α→Bool
 | [],[]=>true
 | x :: l,y :: r=>bif f x y then eqL f l r else false
 | _,_=>false
mutual
def eqC : (t:CTy)→t.D→t.D→Bool
 | .int _,a,b=>t6 a b
 | .bool,a,b=>mX a b
 | .str,a,b=>t7 a b
 | .slice e,a,b=>eqL (eqE e) a b
def eqE : (e:ETy)→e.D→e.D→Bool
 | .one t,a,b=>eqC t a b
 | .more t e,a,b=>bif eqC t a.1 b.1 then eqE e a.2 b.2 else false
end
def t8 (e:ETy) (l:List e.D) (x:Option (List e.D)):Bool:=match x with | some r=>eqL (eqE e) l r | none=>false
def mY (x y:AV):Bool:=match x with
 | .int k n=>(match y with | .int k' n' => bif decide (k=k') then t6 n n' else false | _=>false)
 | .bool b=>(match y with | .bool b' => mX b b' | _=>false)
 | .str s=>(match y with | .str s' => t7 s s' | _=>false)
 | .imm e l=>(match y with | .imm e' l' => t8 e l (fL e e' l') | _=>false)
 | .own i=>(match y with | .own j=>Nat.beq i j | _=>false)
 | .ptr i o=>(match y with | .ptr j p=>bif Nat.beq i j then Nat.beq o p else false | _=>false)
 | .nils=>(match y with | .nils=>true | _=>false)
 | .nilp=>(match y with | .nilp=>true | _=>false)
 | .undef=>(match y with | .undef=>true | _=>false)
 | .win i o n=>(match y with | .win j p m=>bif Nat.beq i j then (bif Nat.beq o p then Nat.beq n m else false) else false | _=>false)
 | .parr i=>(match y with | .parr j=>Nat.beq i j | _=>false)
 | _=>false
def mZ (x y:aA):Bool:=match x with
 | .dead=>true
 | .typed e l f=>(match y with | .typed e' l' f' => bif mX f f' then t8 e l (fL e e' l') else false | _=>false)
 | .box cs=>(match y with | .box ds=>eqL mY cs ds | _=>false)
def m6 (H H' : List aA):Bool:=List.rec (fun _=>true) (fun x _ ih H' => match H' with | y :: r=>bif mZ x y then ih r else false | []=>false) H H'
def aFG (H:List aA) (keep:Bool) (K:AV→List aA→Prop) (v:AV) (H' : List aA):Prop:=match keep with
 | false=>K v H'
 | true=>bif m6 H H' then K v H' else False
def qF (T:Tab) (go:FnT→List Item→St→(AV→List aA→Prop)→Prop):cC:=fun g args H keep K=>match find T.fn g with
 | some gn=>bif Nat.ble args.length gn.n then go gn [.code gn.body] ⟨aP gn.n args,H⟩ (aFG H keep K) else False
 | none=>False
def jZ (go:List Item→St→Prop) (todo:List Item) (st:St):Prop:=match todo with
 | .inLoop c :: r=>go (.code c :: .inLoop c :: r) st
 | _=>False
end
end
section
def dE {e:ETy} (l:(CTy.slice e).D):List e.D:=l
mutual
def CellR (S:Nat→Prop) (w:World):(t:CTy)→t.D→Value→Prop
 | .int k,n,v=>v = .int k n
 | .bool,b,v=>v = .bool b
 | .str,s,v=>v = .string s
 | .slice e,l,v=>∃ A c,v = .slice A (dE l).length c∧(dE l).length≤c∧(0<(dE l).length→∃ g o,A=some ⟨g,o,none⟩∧S g ∧
  ∀ (i:Nat) (x:e.D),(dE l)[i]? = some x→∃ vs,ElemR S w e x vs∧∀ (j:Nat) (u:Value),vs[j]? = some u→w.cell? ⟨g,o+i * e.size+j,none⟩=some u)
def ElemR (S:Nat→Prop) (w:World):(e:ETy)→e.D→List Value→Prop
 | .one t,x,vs=>∃ v,vs=[v]∧CellR S w t x v
 | .more t e,x,vs=>∃ v r,vs=v :: r∧CellR S w t x.1 v∧ElemR S w e x.2 r
end
theorem aFH {w w' : World} {a:Addr} (h:w'.heap[a.block]? = w.heap[a.block]?):w'.cell? a=w.cell? a:=by simp [World.cell?, h]
set_option linter.unusedSectionVars false
section
variable {S S' : Nat→Prop} {w w' : World} (hS:∀ g,S g→S' g) (hw:∀ g,S g→w'.heap[g]? = w.heap[g]?)
include hS hw
mutual
theorem CellR.mono : ∀ {t:CTy} {x:t.D} {v:Value},CellR S w t x v→CellR S' w' t x v
 | .int _,_,_,h=>h
 | .bool,_,_,h=>h
 | .str,_,_,h=>h
 | .slice e,l,v,h=>by
   simp only [CellR] at h ⊢
   obtain ⟨A,c,h1,h2,h3⟩:=h
   refine ⟨A,c,h1,h2,fun h0=>?_⟩
   obtain ⟨g,o,ha,hg,hi⟩:=h3 h0
   refine ⟨g,o,ha,hS g hg,fun i x hx=>?_⟩
   obtain ⟨vs,hv,hc⟩:=hi i x hx
   exact ⟨vs,ElemR.mono hv,fun j u hu=>(aFH (hw g hg)).trans (hc j u hu)⟩
theorem ElemR.mono : ∀ {e:ETy} {x:e.D} {vs:List Value},ElemR S w e x vs→ElemR S' w' e x vs
 | .one _,_,_,h=>by
   simp only [ElemR] at h ⊢
   obtain ⟨v,h1,h2⟩:=h
   exact ⟨v,h1,CellR.mono h2⟩
 | .more _ _,_,_,h=>by
   simp only [ElemR] at h ⊢
   obtain ⟨v,r,h1,h2,h3⟩:=h
   exact ⟨v,r,h1,CellR.mono h2,ElemR.mono h3⟩
end
end
theorem ElemR.length {S:Nat→Prop} {w:World}:∀ {e:ETy} {x:e.D} {vs:List Value},ElemR S w e x vs→vs.length=e.size
 | .one _,_,_,h=>by
   simp only [ElemR] at h
   obtain ⟨v,rfl,_⟩:=h; rfl
 | .more _ e,_,_,h=>by
   simp only [ElemR] at h
   obtain ⟨v,r,rfl,_,h3⟩:=h
   simp only [List.length_cons,ETy.size,ElemR.length h3]
structure Ctx where
 n:Nat
 m:Nat→Value
 z:Nat→Nat
 S:Nat→Prop
 S0:Nat→Prop
inductive AVR (c:Ctx) (w:World):AV→Value→Prop
 | undef (v:Value):AVR c w .undef v
 | int (k:IntKind) (n:Int):AVR c w (.int k n) (.int k n)
 | bool (b:Bool):AVR c w (.bool b) (.bool b)
 | str (s:ByteArray):AVR c w (.str s) (.string s)
 | imm {e:ETy} {l:List e.D} {v:Value} (h:CellR c.S w (.slice e) l v):AVR c w (.imm e l) v
 | own {id n k:Nat} {A:Option Addr} (hb:id<c.n) (h:c.m id = .slice A n k):AVR c w (.own id) (.slice A n k)
 | win {id off len n k k' : Nat} {A B:Option Addr} (hb:id<c.n) (h:c.m id = .slice A n k) (h1:off+len≤n) (h2:len≤k') (h3:0<len→∃ g,A=some ⟨g,0,none⟩∧B=some ⟨g,off * c.z id,none⟩) (h4:off=0→B=A∧k' = k):AVR c w (.win id off len) (.slice B len k')
 | nils:AVR c w .nils (.slice none 0 0)
 | ptr {id off g:Nat} (hb:id<c.n) (h:c.m id = .pointer (some ⟨g,0,none⟩)):AVR c w (.ptr id off) (.pointer (some ⟨g,off,none⟩))
 | elt {id off g n k:Nat} {i:Int} (hb:id<c.n) (h:c.m id = .slice (some ⟨g,0,none⟩) n k) (h0:0≤i) (h1:i<n) (h2:off<c.z id):AVR c w (.elt id i off) (.pointer (some ⟨g,i.toNat * c.z id+off,none⟩))
 | parr {id g n k:Nat} (hb:id<c.n) (h:c.m id = .slice (some ⟨g,0,none⟩) n k) (hk:k=n):AVR c w (.parr id) (.pointer (some ⟨g,0,none⟩))
 | adr {cs:List AV} {g o:Nat} (hg:c.S g) (u:Nat→Value) (h1:∀ (j:Nat) (x:AV),cs[j]? = some x→w.cell? ⟨g,o+j,none⟩=some (u j)) (h:∀ (j:Nat) (x:AV),cs[j]? = some x→AVR c w x (u j)):AVR c w (.adr cs) (.pointer (some ⟨g,o,none⟩))
 | nilp:AVR c w .nilp (.pointer none)
 | agg {cs:List AV} {vs:Array Value} (hl:cs.length=vs.size) (u:Nat→Value) (h1:∀ (j:Nat) (x:AV),cs[j]? = some x→vs[j]? = some (u j)) (h:∀ (j:Nat) (x:AV),cs[j]? = some x→AVR c w x (u j)):AVR c w (.agg cs) (.agg vs)
 | tup {cs:List AV} {vs:Array Value} (hl:cs.length=vs.size) (u:Nat→Value) (h1:∀ (j:Nat) (x:AV),cs[j]? = some x→vs[j]? = some (u j)) (h:∀ (j:Nat) (x:AV),cs[j]? = some x→AVR c w x (u j)):AVR c w (.tup cs) (.tuple vs)
 | fn {f:FuncId} {cs:List AV} {vs:Array Value} (hl:cs.length=vs.size) (u:Nat→Value) (h1:∀ (j:Nat) (x:AV),cs[j]? = some x→vs[j]? = some (u j)) (h:∀ (j:Nat) (x:AV),cs[j]? = some x→AVR c w x (u j)):AVR c w (.fn f cs) (.func (.func f) #[] vs)
 | raw (v:Value):AVR c w (.raw v) v
structure Ctx.le (c c' : Ctx):Prop where
 n:c.n≤c'.n
 m:∀ id,id<c.n→c'.m id=c.m id
 z:∀ id,id<c.n→c'.z id=c.z id
 S:∀ g,c.S g→c'.S g
 S0:c'.S0=c.S0
theorem Ctx.le_refl (c:Ctx):Ctx.le c c:=⟨Nat.le_refl _,fun _ _=>rfl,fun _ _=>rfl,fun _ h=>h,rfl⟩
theorem Ctx.le.trans {c c' c'' : Ctx} (h:Ctx.le c c') (k:Ctx.le c' c''):Ctx.le c c'' :=
 ⟨Nat.le_trans h.n k.n,fun id hi=>(k.m id (Nat.lt_of_lt_of_le hi h.n)).trans (h.m id hi),fun id hi=>(k.z id (Nat.lt_of_lt_of_le hi h.n)).trans (h.z id hi),fun g hg=>k.S g (h.S g hg),k.S0.trans h.S0⟩
theorem AVR.mono {c c' : Ctx} {w w' : World} (hc:Ctx.le c c') (hw:∀ g,c.S g→w'.heap[g]? = w.heap[g]?) {x:AV} {v:Value} (h:AVR c w x v):AVR c' w' x v:=by
 have hn:=hc.n
 induction h with
 | undef v=>exact .undef v
 | int k n=>exact .int k n
 | bool b=>exact .bool b
 | str s=>exact .str s
 | imm h=>exact .imm (CellR.mono hc.S hw h)
 | own hb h=>exact .own (by omega) ((hc.m _ hb).trans h)
 | win hb h h1 h2 h3 h4=>exact .win (by omega) ((hc.m _ hb).trans h) h1 h2 (by rw [hc.z _ hb]; exact h3) h4
 | nils=>exact .nils
 | ptr hb h=>exact .ptr (by omega) ((hc.m _ hb).trans h)
 | elt hb h h0 h1 h2=>rw [← hc.z _ hb]; exact .elt (by omega) ((hc.m _ hb).trans h) h0 h1 (by rw [hc.z _ hb]; exact h2)
 | parr hb h hk=>exact .parr (by omega) ((hc.m _ hb).trans h) hk
 | adr hg u h1 h ih=>exact .adr (hc.S _ hg) u (fun j x hx=>(aFH (hw _ hg)).trans (h1 j x hx)) ih
 | nilp=>exact .nilp
 | agg hl u h1 h ih=>exact .agg hl u h1 ih
 | tup hl u h1 h ih=>exact .tup hl u h1 ih
 | fn hl u h1 h ih=>exact .fn hl u h1 ih
 | raw v=>exact .raw v
theorem rec2 {α:Sort _} (x y:α) (m:Nat):Nat.rec (motive:=fun _=>α) x (fun _ _=>y) (m % 2)=if m % 2=0 then x else y:=by
 have:m % 2=0∨m % 2=1:=by omega
 rcases this with h | h <;> rw [h] <;> rfl
theorem iS (x:AV) (a b:fB) (m:Nat):gG (.node x a b) (m+1)=if m % 2=0 then gG a (m / 2) else gG b (m / 2):=rec2 (gG a (m / 2)) (gG b (m / 2)) m
theorem m7 (x:AV) (a b:fB) (v:AV):dU (.node x a b) 0 v = .node v a b:=rfl
theorem fV (x:AV) (a b:fB) (m:Nat) (v:AV):dU (.node x a b) (m+1) v=if m % 2=0 then .node x (dU a (m / 2) v) b else .node x a (dU b (m / 2) v):=rec2 (fB.node x (dU a (m / 2) v) b) (fB.node x a (dU b (m / 2) v)) m
theorem aA8 (t:fB):∀ (d n:Nat) (v:AV),(n≠d→gG (dU t d v) n=gG t n)∧(gG (dU t d v) d=v∨gG (dU t d v) d = .undef):=by
 induction t with
 | leaf=>intro d n v; exact ⟨fun _=>rfl, .inr rfl⟩
 | node x a b iha ihb =>
   intro d n v
   cases d with
   | zero =>
     refine ⟨fun h=>?_, .inl rfl⟩
     cases n with
     | zero=>exact absurd rfl h
     | succ n=>rw [m7,iS,iS]
   | succ d =>
     rw [fV]
     constructor
     · intro h
       cases n with
       | zero=>split <;> rfl
       | succ n =>
         by_cases hd:d % 2=0
         · rw [if_pos hd,iS,iS]
           by_cases hn:n % 2=0
           · rw [if_pos hn,if_pos hn]; exact (iha (d / 2) (n / 2) v).1 (by omega)
           · rw [if_neg hn,if_neg hn]
         · rw [if_neg hd,iS,iS]
           by_cases hn:n % 2=0
           · rw [if_pos hn,if_pos hn]
           · rw [if_neg hn,if_neg hn]; exact (ihb (d / 2) (n / 2) v).1 (by omega)
     · by_cases hd:d % 2=0
       · rw [if_pos hd,iS,if_pos hd]; exact (iha (d / 2) 0 v).2
       · rw [if_neg hd,iS,if_neg hd]; exact (ihb (d / 2) 0 v).2
theorem dW (i n:Nat):Nat.blt i n=true↔i<n:=by simp [Nat.blt,Nat.ble_eq]; omega
theorem qG (e:Env) (i:Nat) (h:i<e.lim):c5 e i=gG e.t i:=by unfold c5; rw [(dW i e.lim).2 h]; rfl
theorem qH (e:Env) (i:Nat) (h:¬ i<e.lim):c5 e i = .undef:=by
 unfold c5
 rw [show Nat.blt i e.lim=false by cases hb:Nat.blt i e.lim with | false=>rfl | true=>exact absurd ((dW _ _).1 hb) h]; rfl
theorem t9 (e:Env) (i:Nat) (v:AV) (h:i<e.lim):c6 e i v=⟨e.lim,dU e.t i v⟩:=by unfold c6; rw [(dW i e.lim).2 h]; rfl
theorem uA (e:Env) (i:Nat) (v:AV) (h:¬ i<e.lim):c6 e i v=e:=by
 unfold c6
 rw [show Nat.blt i e.lim=false by cases hb:Nat.blt i e.lim with | false=>rfl | true=>exact absurd ((dW _ _).1 hb) h]; rfl
structure EnvR (c:Ctx) (w:World) (env:Env) (tmps:Array Value):Prop where
 lim:env.lim=tmps.size
 at_:∀ n,AVR c w (c5 env n) (tmps.getD n Go.undef)
theorem EnvR.mono {c c' : Ctx} {w w' : World} (hc:Ctx.le c c') (hw:∀ g,c.S g→w'.heap[g]? = w.heap[g]?) {env:Env} {tmps:Array Value} (h:EnvR c w env tmps):EnvR c' w' env tmps :=
 ⟨h.lim,fun n=>(h.at_ n).mono hc hw⟩
theorem EnvR.set {c:Ctx} {w:World} {env:Env} {tmps:Array Value} (h:EnvR c w env tmps) (d:Nat) {x:AV} {v:Value} (hx:AVR c w x v):EnvR c w (c6 env d x) (tmps.setIfInBounds d v):=by
 by_cases hd:d<env.lim
 · have hd' : d<tmps.size:=by rw [← h.lim]; exact hd
   rw [t9 _ _ _ hd]
   refine ⟨by simpa using h.lim,fun n=>?_⟩
   by_cases hn:n<env.lim
   · have hn' : n<tmps.size:=by rw [← h.lim]; exact hn
     rw [qG ⟨env.lim,dU env.t d x⟩ n hn]
     by_cases he:n=d
     · subst he
       have e:(tmps.setIfInBounds n v).getD n Go.undef=v:=by simp [Array.getD,hn']
       rw [e]
       rcases (aA8 env.t n n x).2 with h1 | h1
       · rw [h1]; exact hx
       · rw [h1]; exact .undef v
     · rw [(aA8 env.t d n x).1 he,← qG _ _ hn]
       have e:(tmps.setIfInBounds d v).getD n Go.undef=tmps.getD n Go.undef:=by
        simp [Array.getD,hn', Ne.symm he]
       rw [e]; exact h.at_ n
   · rw [qH ⟨env.lim,dU env.t d x⟩ n hn]; exact .undef _
 · rw [uA _ _ _ hd]
   have hd' : tmps.size≤d:=by rw [← h.lim]; omega
   refine ⟨by simpa using h.lim,fun n=>?_⟩
   rw [Array.setIfInBounds_eq_of_size_le hd']
   exact h.at_ n
theorem EnvR.put {c:Ctx} {w:World} {env:Env} {a:Act} (h:EnvR c w env a.tmps) (d:Option Tmp) {x:AV} {v:Value} (hx:AVR c w x v):EnvR c w (b8 env d x) (a.put d v).tmps:=by
 cases d with
 | none=>exact h
 | some d=>exact h.set d hx
end
section
theorem uB (c:Ctx) (w:World):∀ (d:Nat) (v:Value),AVR c w (jB d v) v
 | 0,v => .undef v
 | d + 1,v=>by
   have hm:∀ (cs:Array Value) (j:Nat) (x:AV),(cs.toList.map (jB d))[j]? = some x→cs[j]? = some (cs.getD j default)∧AVR c w x (cs.getD j default):=by
     intro cs j x hx
     rw [List.getElem?_map,Option.map_eq_some_iff] at hx
     obtain ⟨u,hu,rfl⟩:=hx
     have hu' : cs[j]? = some u:=by simpa using hu
     have:cs.getD j default=u:=by simp [Array.getD_eq_getD_getElem?, hu']
     rw [this]
     exact ⟨hu', uB c w d u⟩
   unfold jB
   split
   · exact .int _ _
   · exact .bool _
   · exact .str _
   · exact .nils
   · exact .nilp
   · rename_i cs
     exact .agg (by simp) (fun j=>cs.getD j default) (fun j x hx=>(hm cs j x hx).1) (fun j x hx=>(hm cs j x hx).2)
   · rename_i cs
     exact .tup (by simp) (fun j=>cs.getD j default) (fun j x hx=>(hm cs j x hx).1) (fun j x hx=>(hm cs j x hx).2)
   · exact .fn (cs:=[]) (vs:=#[]) rfl (fun _=>default) (fun j x hx=>by simp at hx) (fun j x hx=>by simp at hx)
   · exact .raw _
theorem bN {c:Ctx} {w:World} {env:Env} {a:Act} (h:EnvR c w env a.tmps) (x:Operand):AVR c w (aD env x) (a.eval x):=by
 cases x with
 | tmp t=>exact h.at_ t
 | const v=>exact uB c w 3 v
 | global g=>exact .undef _
 | func f=>exact .fn (cs:=[]) (vs:=#[]) rfl (fun _=>default) (fun j x hx=>by simp at hx) (fun j x hx=>by simp at hx)
def Pure1 (P:Program) (c:Ctx) (w:World) (o:Oper) (a:Act) (x:AV):Prop:=∃ v,(execOp a.eval o).run P w = .ok (.value v) w∧AVR c w x v
section
variable {P:Program} {c:Ctx} {w:World} {env:Env} {a:Act} (h:EnvR c w env a.tmps)
include h
theorem aFI {o:Oper} (x:Operand) (ho:o.op = .move x∨o.op = .assign x):Pure1 P c w o a (aD env x):=by
 refine ⟨a.eval x,?_,bN h x⟩
 rcases ho with ho | ho
 · simp [execOp,ho,pure,Sem.run]
 · simp [execOp,ho,pure,Sem.run]
end
theorem eA {c:Ctx} {w:World} {k:IntKind} {n:Int} {v:Value} (h:AVR c w (.int k n) v):v = .int k n:=by cases h; rfl
theorem gV {c:Ctx} {w:World} {b:Bool} {v:Value} (h:AVR c w (.bool b) v):v = .bool b:=by cases h; rfl
theorem iE {c:Ctx} {w:World} {s:ByteArray} {v:Value} (h:AVR c w (.str s) v):v = .string s:=by cases h; rfl
theorem aQ7 {P:Program} {c:Ctx} {w:World} (op:BinOp) (t:TypeId) (k:IntKind) (m n:Int) (hg:(jV op k m n).1=true) (hop:op ≠ .shl∧op ≠ .shr) :
 ∃ v,(binOp op t (.int k m) (.int k n)).run P w = .ok v w∧AVR c w (jV op k m n).2 v:=by
 cases op <;> simp only [jV,Bool.not_eq_true', decide_eq_false_iff_not] at hg ⊢ <;>
  first
  | exact absurd rfl hop.1
  | exact absurd rfl hop.2
  | (refine ⟨_,?_, .int _ _⟩; simp [binOp,Op.intArith,Op.intDiv,Op.intBits,hg,Sem.run,pure,bind]; done)
  | (refine ⟨_,?_, .bool _⟩; simp [binOp,Op.intCmp,Sem.run,pure,bind]; done)
  | (refine ⟨.bool (m == n),?_,?_⟩; (· simp [binOp,Op.intCmp,Sem.run,pure,bind]); (· rw [show (m == n)=decide (m=n) from rfl]; exact .bool _))
  | (refine ⟨.bool (m != n),?_,?_⟩; (· simp [binOp,Op.intCmp,Sem.run,pure,bind]); (· rw [show (m != n) = !decide (m=n) from rfl]; exact .bool _))
def PureSpec (P:Program) (c:Ctx) (w:World) (H:List aA) (o:Oper) (a:Act) (r:OpR):Prop:=match r with
 | .fail=>True
 | .ok g x H' => g=true→H' = H∧Pure1 P c w o a x
 | .call _ _=>False
theorem aA9 {P:Program} {w:World} {o:Oper} {a:Act} {op:BinOp} {t u:TypeId} {x y:Operand} (ho:o.op = .binOp op t x y u) {v:Value}
 (hg:(eqGuard op t x y (a.eval x) (a.eval y)).run P w = .ok () w) (hb:(binOp op t (a.eval x) (a.eval y)).run P w = .ok v w):(execOp a.eval o).run P w = .ok (.value v) w:=by
 simp only [execOp,ho,Sem.run_bind,hg,hb,Result.andThen_ok,Sem.run_pure]
theorem j2 {P:Program} {w:World} (op:BinOp) (t:TypeId) (x y:Operand) (u v:Value) (hu:∀ cs,u ≠ .agg cs) (hn:u ≠ .nilIface):(eqGuard op t x y u v).run P w = .ok () w:=by
 unfold eqGuard
 cases u with
 | agg cs=>exact absurd rfl (hu cs)
 | nilIface=>exact absurd rfl hn
 | _=>cases op <;> first | rfl | (cases v <;> rfl)
theorem aQ8 {P:Program} {c:Ctx} {w:World} (op:BinOp) (t:TypeId) (m n:ByteArray) (hg:(tK op m n).1=true) :
 ∃ v,(binOp op t (.string m) (.string n)).run P w = .ok v w∧AVR c w (tK op m n).2 v:=by
 cases op <;> simp only [tK,decide_eq_true_eq,Bool.false_eq_true] at hg ⊢ <;>
  first
  | exact hg.elim
  | (refine ⟨_,?_, .bool _⟩; simp [binOp,Op.stringOp,Sem.run,pure]; done)
  | (refine ⟨_,?_, .str _⟩
     have:¬ ((m.size+n.size:Nat):Int) > IntKind.i64.max:=by
      show ¬ ((m.size+n.size:Nat):Int) > 9223372036854775807
      omega
     simp only [binOp,Op.stringOp,this,if_false,Sem.run,pure])
theorem aFJ {P:Program} {T:Tab} (hT:bC P T) {t:TypeId} (h:T.kind t = .bool):P.underlying t=some .bool:=by
 unfold Tab.kind at h
 split at h
 · rename_i x hx
   rw [hT.ty _ _ hx] at h
   unfold aY at h
   dsimp only at h
   split at h <;> first | assumption | (exfalso; revert h; split <;> simp) | simp at h
 · simp at h
theorem j5 {P:Program} {T:Tab} (hT:bC P T) {t:TypeId} (h:T.kind t = .slice∨T.kind t = .bytes):∃ e,P.underlying t=some (.slice e):=by
 unfold Tab.kind at h
 split at h
 · rename_i x hx
   rw [hT.ty _ _ hx] at h
   unfold aY at h
   dsimp only at h
   split at h <;> first | exact ⟨_,by assumption⟩ | simp at h
 · simp at h
theorem aFK {P:Program} {T:Tab} (hT:bC P T) {t:TypeId} (h:T.kind t = .pointer):∃ e,P.underlying t=some (.pointer e):=by
 unfold Tab.kind at h
 split at h
 · rename_i x hx
   rw [hT.ty _ _ hx] at h
   unfold aY at h
   dsimp only at h
   split at h <;> first | exact ⟨_,by assumption⟩ | (exfalso; revert h; split <;> simp) | simp at h
 · simp at h
end
section
def blk : Value→Option Nat
 | .slice (some a) _ _=>some a.block
 | .pointer (some a)=>some a.block
 | _=>none
theorem aQ9 (v:Value) (n c:Nat) (A:Option Addr) (h:v = .slice A n c):blk v=v.ownBlock:=by subst h; cases A <;> rfl
def RowR (S:Nat→Prop) (w:World) (e:ETy) (xs:List e.D) (cells:List Value):Prop :=
 ∀ (i:Nat) (x:e.D),xs[i]? = some x→∃ vs,ElemR S w e x vs∧∀ (j:Nat) (u:Value),vs[j]? = some u→cells[i * e.size+j]? = some u
def ObjR (n0:Nat) (c:Ctx) (w:World) (id:Nat):aA→Prop
 | .typed e xs fz=>c.z id=e.size∧(∃ T cells,w.ownsRow n0 T e.size (c.m id) xs.length cells∧RowR c.S w e xs cells) ∧
  ∀ g,blk (c.m id)=some g→(fz=true→c.S g)∧(fz=false→¬ c.S g)
 | .box cs=>∃ (g:Nat) (T:TypeId) (arr:Array Value),c.m id = .pointer (some ⟨g,0,none⟩)∧n0≤g∧w.heap[g]? = some (.cells arr T (0,0))∧arr.size=cs.length ∧
  (∀ (j:Nat) (x:AV),cs[j]? = some x→AVR c w x (arr.getD j default))∧¬ c.S g
 | .dead=>True
def aV : aA→Bool
 | .dead=>false
 | _=>true
structure HR (n0:Nat) (c:Ctx) (H:List aA) (w:World):Prop where
 len:c.n=H.length
 obj:∀ id,id<H.length→ObjR n0 c w id (aF H id)
 dist:∀ i j g,i<H.length→j<H.length→i≠j→aV (aF H i)=true→aV (aF H j)=true→blk (c.m i)=some g→blk (c.m j)≠some g
theorem fF (H:List aA) (id:Nat):aF H id=(H[id]?).getD .dead:=by
 induction H generalizing id with
 | nil=>rfl
 | cons x H ih =>
   cases id with
   | zero=>rfl
   | succ n=>exact (ih n).trans (by simp)
theorem cU {H:List aA} {id:Nat} (h:aF H id ≠ .dead):id<H.length:=by
 rw [fF] at h
 by_cases hl:id<H.length
 · exact hl
 · rw [List.getElem?_eq_none (by omega)] at h; simp at h
theorem gW {n0:Nat} {c:Ctx} {H:List aA} {w:World} (h:HR n0 c H w) {id:Nat} {e:ETy} {xs:List e.D} {fz:Bool} (ho:aF H id = .typed e xs fz) :
 ∃ A cap,c.m id = .slice A xs.length cap∧xs.length≤cap∧c.z id=e.size∧(0<xs.length→∃ g,A=some ⟨g,0,none⟩):=by
 have hlt:=cU (H:=H) (id:=id) (by rw [ho]; simp)
 have:=h.obj id hlt
 rw [ho] at this
 obtain ⟨hz,⟨T,cells,hown,_⟩,_⟩:=this
 rcases hown.2 with ⟨hv,hn⟩ | ⟨g,cap,cur,hv,_,_,hc,_⟩
 · exact ⟨none,0,by rw [hv,hn],by omega,hz,fun hp=>by omega⟩
 · exact ⟨_,cap,hv,hc,hz,fun _=>⟨g,rfl⟩⟩
theorem aRA {n0:Nat} {c:Ctx} {H:List aA} {w:World} (h:HR n0 c H w) {x:AV} {v:Value} (hx:AVR c w x v) {n:Nat} (hn:lenOf H x=some n) :
 (∃ A cap,v = .slice A n cap)∨(∃ s,x = .str s∧v = .string s∧n=s.size)∨(∃ id,x = .parr id):=by
 cases x <;> simp only [lenOf] at hn <;> try (simp at hn; done)
 · cases hx; exact .inr (.inl ⟨_,rfl,rfl,(Option.some.inj hn).symm⟩)
 · cases hx with | imm hc =>
   simp only [CellR] at hc
   obtain ⟨A,cp,hv,_⟩:=hc
   refine .inl ⟨A,cp,?_⟩
   rw [hv,← Option.some.inj hn]; rfl
 · cases hx with | own hb hm =>
   split at hn
   · rename_i e xs fz ho
     obtain ⟨A,cap,h1,_⟩:=gW h ho
     exact .inl ⟨A,cap,by rw [← hm,h1,← Option.some.inj hn]⟩
   · simp at hn
 · cases hx; exact .inl ⟨_,_,by rw [← Option.some.inj hn]⟩
 · cases hx; exact .inl ⟨_,_,by rw [← Option.some.inj hn]⟩
 · exact .inr (.inr ⟨_,rfl⟩)
theorem s_bin {P:Program} {T:Tab} (hT:bC P T) {n0:Nat} {c:Ctx} {w:World} {env:Env} {a:Act} (h:EnvR c w env a.tmps) (H:List aA) (hH:HR n0 c H w) {o:Oper} {op:BinOp} {t u:TypeId} {x y:Operand} (ho:o.op = .binOp op t x y u) :
 PureSpec P c w H o a (mC (T.kind t) H op (aD env x) (aD env y)):=by
 have hx:=bN h x
 have hy:=bN h y
 have hb:=fun v hg=>@aA9 P w o a op t u x y ho v hg
 generalize aD env x=X at *
 generalize aD env y=Y at *
 generalize a.eval x=vx at *
 generalize a.eval y=vy at *
 unfold mC
 split
 · rename_i k m k' n
   obtain rfl:=eA hx
   obtain rfl:=eA hy
   have hgd:(eqGuard op t x y (.int k m) (.int k' n)).run P w = .ok () w:=j2 op t x y _ _ (by simp) (by simp)
   split
   · intro hg
     simp only [jV,decide_eq_true_eq] at hg
     refine ⟨rfl,_,hb _ hgd ?_, .int _ _⟩
     simp [binOp,Op.shift,show ¬ n<0 by omega,Sem.run,pure]
   · intro hg
     simp only [jV,decide_eq_true_eq] at hg
     refine ⟨rfl,_,hb _ hgd ?_, .int _ _⟩
     simp [binOp,Op.shift,show ¬ n<0 by omega,Sem.run,pure]
   · rename_i h1 h2
     split
     · rename_i hk
       have hk' : k=k' := by simpa using hk
       subst hk'
       intro hg
       obtain ⟨v,hv,hr⟩:=aQ7 (P:=P) (c:=c) (w:=w) op t k m n hg ⟨h1,h2⟩
       exact ⟨rfl,v,hb _ hgd hv,hr⟩
     · trivial
 · rename_i m n
   obtain rfl:=iE hx
   obtain rfl:=iE hy
   intro hg
   obtain ⟨v,hv,hr⟩:=aQ8 (P:=P) (c:=c) (w:=w) op t m n hg
   exact ⟨rfl,v,hb _ (j2 op t x y _ _ (by simp) (by simp)) hv,hr⟩
 · rename_i m n
   obtain rfl:=gV hx
   obtain rfl:=gV hy
   have hgd:(eqGuard op t x y (.bool m) (.bool n)).run P w = .ok () w:=j2 op t x y _ _ (by simp) (by simp)
   split
   · rename_i hk
     intro _
     refine ⟨rfl,_,hb _ hgd ?_, .bool _⟩
     simp only [binOp,Op.equal,Sem.run_bind,show Op.maxDepth=9999+1 from rfl,run_equalIn_bool' w 9999 t m n (aFJ hT hk),Result.andThen_ok,Sem.run_pure]
   · rename_i hk
     intro _
     refine ⟨rfl,_,hb _ hgd ?_, .bool _⟩
     simp only [binOp,Op.equal,Sem.run_bind,show Op.maxDepth=9999+1 from rfl,run_equalIn_bool' w 9999 t m n (aFJ hT hk),Result.andThen_ok,Sem.run_pure]
   · trivial
 · cases hx
   cases hy
   have hgd:(eqGuard op t x y (.slice none 0 0) (.slice none 0 0)).run P w = .ok () w:=j2 op t x y _ _ (by simp) (by simp)
   have heq:(∃ e,P.underlying t=some (.slice e))→(Op.equal t (.slice none 0 0) (.slice none 0 0)).run P w = .ok true w:=by
    rintro ⟨e,he⟩
    show (Op.equalIn (9999+1) t (.slice none 0 0) (.slice none 0 0)).run P w = .ok true w
    unfold Op.equalIn
    simp [Sem.run_bind,run_underlying he,Result.andThen_ok,Sem.run_pure]
   split <;> rename_i hk <;> first
    | trivial
    | (intro _
       refine ⟨rfl,_,hb _ hgd ?_, .bool _⟩
       first
       | simp only [binOp,Sem.run_bind,heq (j5 hT (.inl hk)),Result.andThen_ok,Sem.run_pure,Bool.not_true]
       | simp only [binOp,Sem.run_bind,heq (j5 hT (.inr hk)),Result.andThen_ok,Sem.run_pure,Bool.not_true])
 · cases hx
   cases hy
   have hgd:(eqGuard op t x y (.pointer none) (.pointer none)).run P w = .ok () w:=j2 op t x y _ _ (by simp) (by simp)
   have heq:(∃ e,P.underlying t=some (.pointer e))→(Op.equal t (.pointer none) (.pointer none)).run P w = .ok true w:=by
    rintro ⟨e,he⟩
    show (Op.equalIn (9999+1) t (.pointer none) (.pointer none)).run P w = .ok true w
    unfold Op.equalIn
    simp [Sem.run_bind,run_underlying he,Result.andThen_ok,Sem.run_pure]
   split <;> rename_i hk <;> first
    | trivial
    | (intro _
       refine ⟨rfl,_,hb _ hgd ?_, .bool _⟩
       simp only [binOp,Sem.run_bind,heq (aFK hT hk),Result.andThen_ok,Sem.run_pure,Bool.not_true])
 · rename_i A n k
   cases hx
   cases hy
   have hgd:(eqGuard op t x y (.slice A n k) (.slice none 0 0)).run P w = .ok () w:=j2 op t x y _ _ (by simp) (by simp)
   have heq:(∃ e,P.underlying t=some (.slice e))→(Op.equal t (.slice A n k) (.slice none 0 0)).run P w = .ok A.isNone w:=by
    rintro ⟨e,he⟩
    show (Op.equalIn (9999+1) t (.slice A n k) (.slice none 0 0)).run P w = .ok A.isNone w
    unfold Op.equalIn
    cases A <;> simp [Sem.run_bind,run_underlying he,Result.andThen_ok,Sem.run_pure]
   unfold pM
   split <;> rename_i hk <;> first
    | trivial
    | (split <;> first
         | trivial
         | (intro _
            refine ⟨rfl,_,hb _ hgd ?_, .bool _⟩
            first
            | simp only [binOp,Sem.run_bind,heq (j5 hT (.inl hk)),Result.andThen_ok,Sem.run_pure]
            | simp only [binOp,Sem.run_bind,heq (j5 hT (.inr hk)),Result.andThen_ok,Sem.run_pure]))
 · cases hx with | ptr hb' hm =>
   cases hy
   rename_i g
   rename_i off
   have hgd:(eqGuard op t x y (.pointer (some ⟨g,off,none⟩)) (.pointer none)).run P w = .ok () w:=j2 op t x y _ _ (by simp) (by simp)
   have heq:(∃ e,P.underlying t=some (.pointer e))→(Op.equal t (.pointer (some ⟨g,off,none⟩)) (.pointer none)).run P w = .ok false w:=by
    rintro ⟨e,he⟩
    show (Op.equalIn (9999+1) t (.pointer (some ⟨g,off,none⟩)) (.pointer none)).run P w = .ok false w
    unfold Op.equalIn
    simp [Sem.run_bind,run_underlying he,Result.andThen_ok,Sem.run_pure]
   split <;> rename_i hk <;> first
    | trivial
    | (intro _
       refine ⟨rfl,_,hb _ hgd ?_, .bool _⟩
       simp only [binOp,Sem.run_bind,heq (aFK hT hk),Result.andThen_ok,Sem.run_pure,Bool.not_false])
 · -- a slice with elements against nil
   unfold pN
   split
   · cases hr:jD X with
     | false=>trivial
     | true =>
       simp only [cond_true]
       cases hn:lenOf H X with
       | none=>trivial
       | some n =>
         simp only
         cases hy
         have key:Nat.blt 0 n=true→∃ ad cap,vx = .slice (some ad) n cap:=by
           intro hb
           have hp:=(dW _ _).1 hb
           cases X <;> simp only [jD,Bool.false_eq_true] at hr <;> simp only [lenOf] at hn
           · cases hx with
             | imm hc =>
               simp only [CellR] at hc
               obtain ⟨A,cp,hv,_,h3⟩:=hc
               have hl:(dE _).length=n:=Option.some.inj hn
               obtain ⟨g,o', ha,_⟩:=h3 (by rw [hl]; exact hp)
               exact ⟨_,cp,by rw [hv,ha,hl]⟩
           · cases hx with
             | own hb' hm =>
               split at hn
               · rename_i e xs fz ho
                 obtain ⟨A,cap,h1,_,_,h2⟩:=gW hH ho
                 have hl:=Option.some.inj hn
                 obtain ⟨g,hg⟩:=h2 (by omega)
                 exact ⟨_,cap,by rw [← hm,h1,hg,hl]⟩
               · simp at hn
           · cases hx with
             | win hb' hm q1 q2 q3 =>
               have hl:=Option.some.inj hn
               obtain ⟨g,_,hB⟩:=q3 (by omega)
               exact ⟨_,_,by rw [hB,hl]⟩
           · simp only [Option.some.injEq] at hn
             omega
         have fin:(T.kind t = .slice∨T.kind t = .bytes)→∀ (neg:Bool),(op=if neg then .neq else .eql)→PureSpec P c w H o a (.ok (Nat.blt 0 n) (.bool neg) H):=by
           intro hk neg hop hb'
           obtain ⟨ad,cap,rfl⟩:=key hb'
           obtain ⟨e,he⟩:=j5 hT hk
           have hgd:(eqGuard op t x y (.slice (some ad) n cap) (.slice none 0 0)).run P w = .ok () w:=j2 op t x y _ _ (by simp) (by simp)
           have heq:(Op.equal t (.slice (some ad) n cap) (.slice none 0 0)).run P w = .ok false w:=by
              show (Op.equalIn (9999+1) t _ _).run P w = .ok false w
              unfold Op.equalIn
              simp [Sem.run_bind,run_underlying he,Result.andThen_ok,Sem.run_pure]
           refine ⟨rfl, .bool neg,hb _ hgd ?_, .bool _⟩
           cases neg <;> simp only [if_true,if_false,Bool.false_eq_true] at hop <;> subst hop <;> simp only [binOp,Sem.run_bind,heq,Result.andThen_ok,Sem.run_pure,Bool.not_false]
         split
         · rename_i hk
           split
           · exact fin (.inl hk) false rfl
           · exact fin (.inl hk) true rfl
           · trivial
         · rename_i hk
           split
           · exact fin (.inr hk) false rfl
           · exact fin (.inr hk) true rfl
           · trivial
         · trivial
   · trivial
end
section
theorem qI {P:Program} {T:Tab} (hT:bC P T) {t:TypeId} (h:T.kind t = .str):P.underlying t=some .string:=by
 unfold Tab.kind at h
 split at h
 · rename_i x hx
   rw [hT.ty _ _ hx] at h
   unfold aY at h
   dsimp only at h
   split at h <;> first | assumption | (exfalso; revert h; split <;> simp) | simp at h
 · simp at h
theorem aRB {P:Program} {T:Tab} (hT:bC P T) {t:TypeId} {k:IntKind} (h:T.kind t = .int k):P.underlying t=some (.int k):=by
 unfold Tab.kind at h
 split at h
 · rename_i x hx
   rw [hT.ty _ _ hx] at h
   unfold aY at h
   dsimp only at h
   split at h <;> first | (rename_i hu; rw [hu]; injection h with h; rw [h]) | (exfalso; revert h; split <;> simp) | simp at h
 · simp at h
section
variable {P:Program} {T:Tab} {n0:Nat} {c:Ctx} {H:List aA} {w:World} {env:Env} {a:Act} {o:Oper}
theorem s_un (h:EnvR c w env a.tmps) {op:UnOp} {t:TypeId} {x:Operand} (ho:o.op = .unOp op t x):PureSpec P c w H o a (unR H op (aD env x)):=by
 have hx:=bN h x
 generalize aD env x=X at *
 unfold unR
 split
 · rename_i b
   intro _
   refine ⟨rfl, .bool (!b),?_, .bool _⟩
   simp [execOp,ho,gV hx,Op.unary,Sem.run_bind,Sem.run_pure]
 · rename_i k n
   intro _
   refine ⟨rfl, .int k (k.wrap (0 - n)),?_, .int _ _⟩
   simp [execOp,ho,eA hx,Op.unary,Op.intArith,Sem.run_bind,Sem.run_pure]
 · trivial
theorem aFL (h:EnvR c w env a.tmps) {x y z:Operand} (ho:o.op = .pick x y z):PureSpec P c w H o a (mO H (aD env x) (aD env y) (aD env z)):=by
 have hx:=bN h x
 have hy:=bN h y
 have hz:=bN h z
 have key:∀ b:Bool,a.eval x = .bool b→(execOp a.eval o).run P w = .ok (.value (if b then a.eval y else a.eval z)) w:=by
  intro b hb
  simp [execOp,ho,hb,asBool,Sem.run_bind,Sem.run_pure]
 generalize aD env x=X at *
 generalize aD env y=Y at *
 generalize aD env z=Z at *
 unfold mO
 split
 · rename_i t
   have hb:=key t (gV hx)
   split
   · rename_i p q
     intro _
     refine ⟨rfl,_,hb,?_⟩
     rw [gV hy,gV hz]
     cases t <;> exact .bool _
   · rename_i k m k' n
     split
     · rename_i hk
       have hk' : k=k' := by simpa using hk
       subst hk'
       intro _
       refine ⟨rfl,_,hb,?_⟩
       rw [eA hy,eA hz]
       cases t <;> exact .int _ _
     · trivial
   · cases t with
     | true=>intro _; exact ⟨rfl,_,hb,hy⟩
     | false=>intro _; exact ⟨rfl,_,hb,hz⟩
 · trivial
theorem aRC (l:List AV) (i:Nat):aE9 l i=(l[i]?).getD .undef:=by
 induction l generalizing i with
 | nil=>rfl
 | cons x l ih =>
   cases i with
   | zero=>rfl
   | succ n=>exact (ih n).trans (by simp)
theorem aFM (h:EnvR c w env a.tmps) {x:Operand} {i:Nat} (ho:o.op = .extract x i):PureSpec P c w H o a (mQ H (aD env x) i):=by
 have hx:=bN h x
 generalize aD env x=X at *
 unfold mQ
 split
 · rename_i cs
   intro hg
   have hg' := (dW _ _).1 hg
   generalize hv:a.eval x=vx at *
   cases hx with
   | tup hl u h1 hr =>
     rename_i vs
     have hci:cs[i]? = some cs[i]:=List.getElem?_eq_getElem (by omega)
     have hu:=h1 i _ hci
     refine ⟨rfl,u i,?_,?_⟩
     · simp [execOp,ho,hv,Instr.extract,hu,Sem.run_bind,Sem.run_pure]
     · rw [aRC,hci]; exact hr i _ hci
 · trivial
theorem aFN (h:EnvR c w env a.tmps) {x:Operand} (ho:o.op = .nilCheck x):PureSpec P c w H o a (mP H (aD env x)):=by
 have hx:=bN h x
 generalize aD env x=X at *
 unfold mP
 split <;> first
  | trivial
  | (intro _
     generalize hv:a.eval x=vx at *
     refine ⟨rfl,vx,?_,hx⟩
     cases hx <;> simp [execOp,ho,hv,Sem.run_bind,Sem.run_pure])
theorem aFO (h:EnvR c w env a.tmps) {t:TypeId} {x i:Operand} (hT:bC P T) (ho:o.op = .index t x i):PureSpec P c w H o a (mK (T.kind t) H (aD env x) (aD env i)):=by
 have hx:=bN h x
 have hi:=bN h i
 generalize aD env x=X at *
 generalize aD env i=I at *
 unfold mK
 split
 · rename_i s k j hk
   intro hg
   have ht:=qI hT hk
   simp only [Bool.and_eq_true,decide_eq_true_eq] at hg
   have hj:j.toNat<s.size:=by omega
   have e:s[j.toNat]? = some (s[j.toNat]'hj):=by simp [getElem?_pos,hj]
   have e2:(s.data.toList.getD j.toNat 0)=s[j.toNat]'hj:=by
    rw [List.getD_eq_getElem?_getD,List.getElem?_eq_getElem (by simpa using hj)]
    rfl
   refine ⟨rfl, .int .u8 (s[j.toNat]'hj).toNat,?_,by rw [e2]; exact .int _ _⟩
   simp [execOp,ho,iE hx,eA hi,Instr.index,asIntOf,run_underlying ht,hg.1,e,Sem.run_bind,Sem.run_pure]
 · trivial
end
end
section
theorem ETy.size_pos (e:ETy):0<e.size:=by cases e <;> simp [ETy.size]
theorem qJ {H:List aA} {z:Nat} {x:AV} (h:cS H z x=true):0<z:=by
 have key:∀ o:aA,(match o with | .typed e _ _=>Nat.beq e.size z | _=>false)=true→0<z:=by
  intro o ho
  cases o with
  | typed e xs fz=>rw [← Nat.eq_of_beq_eq_true ho]; exact e.size_pos
  | box cs=>simp at ho
  | dead=>simp at ho
 cases x with
 | imm e l=>rw [← Nat.eq_of_beq_eq_true (show Nat.beq e.size z=true from h)]; exact e.size_pos
 | own id=>exact key _ h
 | win id off n=>exact key _ h
 | parr id=>exact key _ h
 | nils=>exact (dW _ _).1 h
 | ptr id off=>rw [Nat.eq_of_beq_eq_true (show Nat.beq z 1=true from h)]; exact Nat.one_pos
 | _=>simp [cS] at h
section
variable {P:Program} {T:Tab} {n0:Nat} {c:Ctx} {H:List aA} {w:World} {env:Env} {a:Act} {o:Oper}
theorem aFP (h:EnvR c w env a.tmps) (d:Int) (lo:Option Operand) {l:Int} (hl:bnd d (lo.map (aD env))=some l):(lo=none∧l=d)∨(∃ x k,lo=some x∧a.eval x = .int k l):=by
 cases lo with
 | none=>exact .inl ⟨rfl,by simpa [bnd] using hl.symm⟩
 | some x =>
   have hx:=bN h x
   simp only [Option.map_some] at hl
   generalize aD env x=X at *
   unfold bnd at hl
   split at hl
   · rename_i he; simp at he
   · rename_i k n he
     simp only [Option.some.injEq] at he hl
     subst he hl
     exact .inr ⟨x,k,rfl,eA hx⟩
   · simp at hl
theorem aBA (h:EnvR c w env a.tmps) (isS:Bool) (n cap:Nat) (lo hi:Option Operand) {l r:Int} (hl:bnd 0 (lo.map (aD env))=some l) (hr:bnd n (hi.map (aD env))=some r)
 (h0:0≤l) (h1:l≤r) (h2:r≤(n:Int)) (hc:n≤cap) :
 (Instr.sliceBounds isS n cap (lo.map a.eval) (hi.map a.eval) none).run P w = .ok (l.toNat,r.toNat,cap) w:=by
 have e1:∀ (k:IntKind) (y:Nat) (code:BoundsCode),r≤y→(Instr.sliceBound (.int k r) y code).run P w = .ok r.toNat w:=fun k y code hy=>run_sliceBound w k r y code (by omega) hy
 have e2:∀ (k:IntKind) (code:BoundsCode),(Instr.sliceBound (.int k l) r.toNat code).run P w = .ok l.toNat w:=fun k code=>run_sliceBound w k l r.toNat code h0 (by omega)
 rcases aFP h 0 lo hl with ⟨rfl,rfl⟩ | ⟨x,k,rfl,hx⟩ <;> rcases aFP h n hi hr with ⟨rfl,rfl⟩ | ⟨y,k', rfl,hy⟩
 · simp [Instr.sliceBounds,Sem.run_bind,Sem.run_pure]
 · simp [Instr.sliceBounds,Sem.run_bind,Sem.run_pure,hy,e1 k' cap _ (by omega)]
 · simp only [Int.toNat_natCast] at e2
   simp [Instr.sliceBounds,Sem.run_bind,Sem.run_pure,hx,e2]
 · simp [Instr.sliceBounds,Sem.run_bind,Sem.run_pure,hx,hy,e1 k' cap _ (by omega),e2]
theorem aRD (h:EnvR c w env a.tmps) (hT:bC P T) {t:TypeId} {x:Operand} {lo hi:Option Operand} (ho:o.op = .slice t x lo hi none) (hk:T.kind t = .str) {l r:Int}
 (hl:bnd 0 (lo.map (aD env))=some l) {n:Nat} (hn:lenOf H (aD env x)=some n) (hr:bnd n (hi.map (aD env))=some r):PureSpec P c w H o a (tL H l r (aD env x)):=by
 have hx:=bN h x
 generalize hX:aD env x=X at *
 unfold tL
 split
 · rename_i s
   intro hg
   simp only [Bool.and_eq_true,decide_eq_true_eq] at hg
   simp only [lenOf,Option.some.injEq] at hn
   subst hn
   have hb:=aBA (P:=P) h false s.size s.size lo hi hl hr hg.1.1 hg.1.2 hg.2 (Nat.le_refl _)
   refine ⟨rfl, .string (s.extract l.toNat r.toNat),?_, .str _⟩
   have ht:=qI hT hk
   simp only [execOp,ho,Option.map_none,iE hx]
   simp [Instr.sliceAt,Instr.slice,run_underlying ht,hb,Sem.run_bind,Sem.run_pure]
 · trivial
theorem aFQ (hT:bC P T) {t:TypeId} (hk:T.kind t = .slice∨T.kind t = .bytes) (hz:0<T.esize t):∃ e i,P.underlying t=some (.slice e)∧P.info? e=some i∧i.size=T.esize t:=by
 obtain ⟨e,he⟩:=j5 hT hk
 unfold Tab.esize at hz ⊢
 cases hf:find T.ty t with
 | none=>rw [hf] at hz; simp at hz
 | some x =>
   rw [hf] at hz
   have hx:=hT.ty _ _ hf
   subst hx
   have hs:(aY P t).esize=P.cellsOf e:=by simp [aY,he]
   simp only [hs] at hz ⊢
   unfold Program.cellsOf at hz ⊢
   cases hi:P.info? e with
   | none=>rw [hi] at hz; simp at hz
   | some i=>exact ⟨e,i,he,hi,rfl⟩
theorem uC (h:EnvR c w env a.tmps) {t:TypeId} {x:Operand} {lo hi:Option Operand} (ho:o.op = .slice t x lo hi none) {e:TypeId} {i:TypeInfo} (ht:P.underlying t=some (.slice e)) (hi' : P.info? e=some i)
 {A:Option Addr} {n cap:Nat} (hv:a.eval x = .slice A n cap) (hc:n≤cap) {l r:Int} (hl:bnd 0 (lo.map (aD env))=some l) (hr:bnd n (hi.map (aD env))=some r) (h0:0≤l) (h1:l≤r) (h2:r≤(n:Int)) :
 (execOp a.eval o).run P w = .ok (.value (.slice (if cap=l.toNat then A else A.map (·.add (l.toNat * i.size))) (r.toNat - l.toNat) (cap - l.toNat))) w:=by
 have hb:=aBA (P:=P) h true n cap lo hi hl hr h0 h1 h2 hc
 simp only [execOp,ho,Option.map_none,hv]
 simp [Instr.sliceAt,Instr.slice,run_underlying ht,hb,sizeOf,typeInfo,hi', Sem.run_bind,Sem.run_pure]
theorem fW (g o n:Nat):(⟨g,o,none⟩:Addr).add n=⟨g,o+n,none⟩:=by
 unfold Addr.add
 split
 · rename_i h; subst h; rfl
 · rfl
theorem cut0 (A:Option Addr) (cap l z:Nat) (h:l=0):(if cap=l then A else A.map (·.add (l * z)))=A:=by
 subst h
 split
 · rfl
 · cases A with
   | none=>rfl
   | some a =>
     simp only [Option.map_some,Nat.zero_mul]
     congr 1
theorem aRE (h:EnvR c w env a.tmps) {t:TypeId} {x:Operand} {lo hi:Option Operand} (ho:o.op = .slice t x lo hi none) {et:TypeId} {i:TypeInfo} (ht:P.underlying t=some (.slice et)) (hi' : P.info? et=some i)
 {e:ETy} {q:List e.D} (hX:aD env x = .imm e q) (hsz:i.size=e.size) {l r:Int} (hl:bnd 0 (lo.map (aD env))=some l) (hr:bnd q.length (hi.map (aD env))=some r) (h0:0≤l) (h1:l≤r) (h2:r≤(q.length:Int)) :
 Pure1 P c w o a (.imm e ((q.take r.toNat).drop l.toNat)):=by
 have hx:=bN h x
 rw [hX] at hx
 cases hx with
 | imm hc =>
   simp only [CellR] at hc
   obtain ⟨A,cap,hv,hle,hcell⟩:=hc
   have hqn:(dE q).length=q.length:=rfl
   rw [hqn] at hv hle hcell
   refine ⟨_,uC h ho ht hi' hv hle hl hr h0 h1 h2, .imm ?_⟩
   simp only [CellR]
   have hlen:(dE ((q.take r.toNat).drop l.toNat)).length=r.toNat - l.toNat:=by
    show ((q.take r.toNat).drop l.toNat).length=_
    rw [List.length_drop,List.length_take]; omega
   refine ⟨_,_,by rw [hlen],by rw [hlen]; omega,fun hp=>?_⟩
   rw [hlen] at hp
   obtain ⟨g,o', rfl,hg,hel⟩:=hcell (by omega)
   refine ⟨g,o' + l.toNat * i.size,?_,hg,fun j y hy=>?_⟩
   · rw [if_neg (by omega)]
     simp only [Option.map_some,fW]
   · have hy' : q[l.toNat+j]? = some y:=by
       have e1:(dE ((q.take r.toNat).drop l.toNat))[j]? = (q.take r.toNat)[l.toNat+j]? := List.getElem?_drop
       rw [e1,List.getElem?_take] at hy
       split at hy
       · exact hy
       · simp at hy
     obtain ⟨vs,hvs,hc2⟩:=hel (l.toNat+j) y hy'
     refine ⟨vs,hvs,fun k u hu=>?_⟩
     have:=hc2 k u hu
     rw [hsz]
     rw [show o' + l.toNat * e.size+j * e.size+k=o' + (l.toNat+j) * e.size+k by rw [Nat.add_mul]; omega]
     exact this
theorem aRF (hH:HR n0 c H w) (h:EnvR c w env a.tmps) {t:TypeId} {x:Operand} {lo hi:Option Operand} (ho:o.op = .slice t x lo hi none) {et:TypeId} {i:TypeInfo} (ht:P.underlying t=some (.slice et)) (hi' : P.info? et=some i)
 {id:Nat} (hX:aD env x = .own id) {e:ETy} {xs:List e.D} {fz:Bool} (hobj:aF H id = .typed e xs fz) (hsz:i.size=e.size) {l r:Int} (hl:bnd 0 (lo.map (aD env))=some l) (hr:bnd xs.length (hi.map (aD env))=some r) (h0:0≤l) (h1:l≤r) (h2:r≤(xs.length:Int)) :
 Pure1 P c w o a (.win id l.toNat (r.toNat - l.toNat)):=by
 have hx:=bN h x
 rw [hX] at hx
 generalize hv:a.eval x=vx at hx
 cases hx with
 | own hb hm =>
   obtain ⟨A,cap,h3,h4,h5,h6⟩:=gW hH hobj
   refine ⟨_,uC h ho ht hi' (hv.trans (hm.symm.trans h3)) h4 hl hr h0 h1 h2, .win hb h3 (by omega) (by omega) (fun hp=>?_) fun h0' => ⟨cut0 A _ _ _ h0', by omega⟩⟩
   obtain ⟨g,rfl⟩:=h6 (by omega)
   refine ⟨g,rfl,?_⟩
   rw [if_neg (by omega),h5,hsz]
   simp only [Option.map_some,fW,Nat.zero_add]
theorem aRG (h:EnvR c w env a.tmps) {t:TypeId} {x:Operand} {lo hi:Option Operand} (ho:o.op = .slice t x lo hi none) {et:TypeId} {i:TypeInfo} (ht:P.underlying t=some (.slice et)) (hi' : P.info? et=some i)
 {id off n:Nat} (hX:aD env x = .win id off n) (hsz:i.size=c.z id) {l r:Int} (hl:bnd 0 (lo.map (aD env))=some l) (hr:bnd n (hi.map (aD env))=some r) (h0:0≤l) (h1:l≤r) (h2:r≤(n:Int)) :
 Pure1 P c w o a (.win id (off+l.toNat) (r.toNat - l.toNat)):=by
 have hx:=bN h x
 rw [hX] at hx
 generalize hv:a.eval x=vx at hx
 cases hx with
 | win hb hm h3 h4 h5 h6 =>
   refine ⟨_,uC h ho ht hi' hv h4 hl hr h0 h1 h2, .win hb hm (by omega) (by omega) (fun hp=>?_) fun h0' => ?_⟩
   rotate_left
   · obtain ⟨hB,hk⟩:=h6 (by omega)
     exact ⟨(cut0 _ _ _ _ (by omega)).trans hB,by omega⟩
   obtain ⟨g,hA,rfl⟩:=h5 (by omega)
   refine ⟨g,hA,?_⟩
   rw [if_neg (by omega),hsz]
   simp only [Option.map_some,fW,Nat.add_mul]
theorem aRH (h:EnvR c w env a.tmps) {t:TypeId} {x:Operand} {lo hi:Option Operand} (ho:o.op = .slice t x lo hi none) {et:TypeId} {i:TypeInfo} (ht:P.underlying t=some (.slice et)) (hi' : P.info? et=some i)
 (hX:aD env x = .nils) {l r:Int} (hl:bnd 0 (lo.map (aD env))=some l) (hr:bnd (0:Nat) (hi.map (aD env))=some r) (h0:0≤l) (h1:l≤r) (h2:r≤((0:Nat):Int)) :
 Pure1 P c w o a .nils:=by
 have hx:=bN h x
 rw [hX] at hx
 generalize hv:a.eval x=vx at hx
 cases hx
 have:=uC h ho ht hi' hv (Nat.le_refl 0) hl hr h0 h1 h2
 rw [show l.toNat=0 by omega,show r.toNat=0 by omega] at this
 exact ⟨_,this, .nils⟩
theorem aFR (hH:HR n0 c H w) (h:EnvR c w env a.tmps) (hT:bC P T) {t:TypeId} {x:Operand} {lo hi:Option Operand} (ho:o.op = .slice t x lo hi none) (hk:T.kind t = .slice∨T.kind t = .bytes) (hs:cS H (T.esize t) (aD env x)=true) {l r:Int}
 (hl:bnd 0 (lo.map (aD env))=some l) {n:Nat} (hn:lenOf H (aD env x)=some n) (hr:bnd n (hi.map (aD env))=some r):PureSpec P c w H o a (kW H n l r (aD env x)):=by
 generalize hX:aD env x=X at *
 have hz:0<T.esize t:=qJ hs
 obtain ⟨et,i,ht,hi', hsz⟩:=aFQ hT hk hz
 unfold kW
 split
 · rename_i e q
   intro hg
   simp only [Bool.and_eq_true,decide_eq_true_eq] at hg
   simp only [lenOf,Option.some.injEq] at hn
   subst hn
   simp only [cS] at hs
   exact ⟨rfl,aRE h ho ht hi' hX (by rw [hsz,Nat.eq_of_beq_eq_true hs]) hl hr hg.1.1 hg.1.2 hg.2⟩
 · rename_i id
   intro hg
   simp only [Bool.and_eq_true,decide_eq_true_eq] at hg
   simp only [lenOf] at hn
   simp only [cS] at hs
   split at hn
   · rename_i e xs fz hobj
     simp only [Option.some.injEq] at hn
     subst hn
     rw [hobj] at hs
     exact ⟨rfl,aRF hH h ho ht hi' hX hobj (by rw [hsz,Nat.eq_of_beq_eq_true hs]) hl hr hg.1.1 hg.1.2 hg.2⟩
   · simp at hn
 · rename_i id off m
   intro hg
   simp only [Bool.and_eq_true,decide_eq_true_eq] at hg
   simp only [lenOf,Option.some.injEq] at hn
   subst hn
   simp only [cS] at hs
   split at hs
   · rename_i e xs fz hobj
     obtain ⟨_,_,_,_,h5,_⟩:=gW hH hobj
     exact ⟨rfl,aRG h ho ht hi' hX (by rw [hsz,h5,Nat.eq_of_beq_eq_true hs]) hl hr hg.1.1 hg.1.2 hg.2⟩
   · simp at hs
 · intro hg
   simp only [Bool.and_eq_true,decide_eq_true_eq] at hg
   simp only [lenOf,Option.some.injEq] at hn
   subst hn
   exact ⟨rfl,aRH h ho ht hi' hX hl hr hg.1.1 hg.1.2 hg.2⟩
 · trivial
end
end
section
theorem aFS {c:Ctx} {w:World} {t:CTy} {x:t.D} {v:Value} (h:CellR c.S w t x v):AVR c w (jU t x) v:=by
 cases t with
 | int k=>simp only [CellR] at h; subst h; exact .int k x
 | bool=>simp only [CellR] at h; subst h; exact .bool x
 | str=>simp only [CellR] at h; subst h; exact .str x
 | slice e=>exact .imm h
theorem m8 {c:Ctx} {w:World}:∀ {e:ETy} {x:e.D} {vs:List Value},ElemR c.S w e x vs→∀ (j:Nat) (y:AV),(dD e x)[j]? = some y→vs[j]? = some (vs.getD j default)∧AVR c w y (vs.getD j default)
 | .one t,x,vs,h,j,y,hy=>by
   simp only [ElemR] at h
   obtain ⟨v,rfl,hv⟩:=h
   simp only [dD] at hy
   cases j with
   | zero =>
     simp only [List.getElem?_cons_zero,Option.some.injEq] at hy
     subst hy
     exact ⟨rfl,aFS hv⟩
   | succ j=>simp at hy
 | .more t e,x,vs,h,j,y,hy=>by
   simp only [ElemR] at h
   obtain ⟨v,r,rfl,hv,hr⟩:=h
   simp only [dD] at hy
   cases j with
   | zero =>
     simp only [List.getElem?_cons_zero,Option.some.injEq] at hy
     subst hy
     exact ⟨rfl,aFS hv⟩
   | succ j =>
     simp only [List.getElem?_cons_succ] at hy
     obtain ⟨h1,h2⟩:=m8 hr j y hy
     exact ⟨by simpa using h1,by simpa using h2⟩
section
variable {P:Program} {T:Tab} {n0:Nat} {c:Ctx} {H:List aA} {w:World} {env:Env} {a:Act} {o:Oper}
theorem aBB {t:TypeId} {x y:Operand} (ho:o.op = .indexAddr t x y) {e:TypeId} {i:TypeInfo} (ht:P.underlying t=some (.slice e)) (hi:P.info? e=some i) {ad:Addr} {n cap:Nat} {k:IntKind} {j:Int}
 (hx:a.eval x = .slice (some ad) n cap) (hy:a.eval y = .int k j) (h0:0≤j) (h1:j<(n:Int)):(execOp a.eval o).run P w = .ok (.value (.pointer (some (ad.add (j.toNat * i.size))))) w:=by
 simp only [execOp,ho,hx,hy]
 simp [Instr.indexAt,asIntOf,run_underlying ht,sizeOf,typeInfo,hi,h0,h1,Sem.run_bind,Sem.run_pure]
theorem aFT (hH:HR n0 c H w) (h:EnvR c w env a.tmps) (hT:bC P T) {t:TypeId} {x y:Operand} (ho:o.op = .indexAddr t x y) (hk:T.kind t = .slice∨T.kind t = .bytes) (hs:cS H (T.esize t) (aD env x)=true) {k:IntKind} {j:Int} (hy:a.eval y = .int k j) :
 PureSpec P c w H o a (k4 H (aD env x) j):=by
 obtain ⟨et,i,ht,hi,hsz⟩:=aFQ hT hk (qJ hs)
 have hx:=bN h x
 generalize hv:a.eval x=vx at *
 generalize aD env x=X at *
 unfold k4
 split
 · rename_i e l
   intro hg
   simp only [Bool.and_eq_true,decide_eq_true_eq] at hg
   have hes:=Nat.eq_of_beq_eq_true (show Nat.beq e.size (T.esize t)=true from hs)
   cases hx with
   | imm hc =>
     simp only [CellR] at hc
     obtain ⟨A,cap,rfl,hle,hcell⟩:=hc
     have hqn:(dE l).length=l.length:=rfl
     rw [hqn] at hle hcell
     rw [hqn] at hv
     obtain ⟨g,o', rfl,hgS,hel⟩:=hcell (by omega)
     have hj:j.toNat<l.length:=by omega
     have hget:(dE l)[j.toNat]? = some (l.getD j.toNat e.dflt):=by
        show l[j.toNat]? = _
        rw [List.getD_eq_getElem?_getD,List.getElem?_eq_getElem hj]; rfl
     obtain ⟨vs,hvs,hc2⟩:=hel _ _ hget
     refine ⟨rfl,_,aBB ho ht hi hv hy hg.1 hg.2,?_⟩
     rw [fW,hsz,← hes]
     exact .adr hgS (fun m=>vs.getD m default) (fun m z hz=>hc2 m _ (m8 hvs m z hz).1) (fun m z hz=>(m8 hvs m z hz).2)
 · rename_i id
   split
   · rename_i e xs fz hobj
     intro hg
     simp only [Bool.and_eq_true,decide_eq_true_eq] at hg
     have hes:=Nat.eq_of_beq_eq_true (show Nat.beq e.size (T.esize t)=true by simpa [cS,hobj] using hs)
     cases hx with
     | own hb hm =>
       obtain ⟨A,cap,h3,h4,h5,h6⟩:=gW hH hobj
       obtain ⟨g,rfl⟩:=h6 (by omega)
       refine ⟨rfl,_,aBB ho ht hi (hv.trans (hm.symm.trans h3)) hy hg.1 hg.2,?_⟩
       rw [fW,hsz,← hes,← h5,Nat.zero_add]
       have:=AVR.elt (w:=w) (off:=0) hb h3 hg.1 hg.2 (by rw [h5]; exact e.size_pos)
       simpa using this
   · trivial
 · rename_i id off n
   intro hg
   simp only [Bool.and_eq_true,decide_eq_true_eq] at hg
   cases hx with
   | win hb hm h3 h4 h5 =>
     obtain ⟨g,rfl,rfl⟩:=h5 (by omega)
     have hes:T.esize t=c.z id:=by
        cases hobj:aF H id with
        | typed e xs fz =>
          have hes:=Nat.eq_of_beq_eq_true (show Nat.beq e.size (T.esize t)=true by simpa [cS,hobj] using hs)
          obtain ⟨_,_,_,_,h7,_⟩:=gW hH hobj
          rw [h7,hes]
        | box cs=>simp [cS,hobj] at hs
        | dead=>simp [cS,hobj] at hs
     have hpos:0<c.z id:=by rw [← hes]; exact qJ hs
     refine ⟨rfl,_,aBB ho ht hi hv hy hg.1 hg.2,?_⟩
     rw [fW,hsz,hes]
     have:=AVR.elt (w:=w) (i:=(off:Int)+j) (off:=0) hb hm (by omega) (by omega) hpos
     rw [show ((off:Int)+j).toNat=off+j.toNat by omega,Nat.add_mul] at this
     simpa using this
 · trivial
end
end
section
theorem eH (m n:Nat):Nat.ble m n=true↔m≤n:=by simp [Nat.ble_eq]
theorem aFU {P:Program} {T:Tab} {c:Ctx} {w:World} (hT:bC P T) {t:TypeId} {cs:List AV} {y:AV} (hy:whole T t cs=some y) {g o:Nat} (u:Nat→Value)
 (hu:∀ (j:Nat) (x:AV),cs[j]? = some x→w.cell? ⟨g,o+j,none⟩=some (u j)∧AVR c w x (u j)) :
 ∃ v,(Instr.loadAt t (.pointer (some ⟨g,o,none⟩))).run P w = .ok v w∧AVR c w y v:=by
 unfold whole at hy
 split at hy
 · rename_i x hf
   have hx:=hT.ty _ _ hf
   subst hx
   cases hok:(aY P t).okay with
   | false=>rw [hok] at hy; simp at hy
   | true =>
     rw [hok] at hy
     simp only [cond_true] at hy
     have hok' : (P.underlying t).isSome=true∧(P.info? t).isSome=true:=by simpa [aY] using hok
     obtain ⟨d,hd⟩:=Option.isSome_iff_exists.1 hok'.1
     obtain ⟨i,hi⟩:=Option.isSome_iff_exists.1 hok'.2
     have hsz:(aY P t).size=i.size:=by simp [aY,Program.cellsOf,hi]
     have hag:(aY P t).agg=d.isRow:=by
        simp only [aY,hd]
        cases d <;> rfl
     unfold aAI at hy
     rw [hag,hsz] at hy
     have one:d.isRow=false→∃ v,(Instr.loadAt t (.pointer (some ⟨g,o,none⟩))).run P w = .ok v w∧AVR c w y v:=by
        intro hf
        rw [hf] at hy
        simp only [cond_false] at hy
        cases cs with
        | nil=>simp at hy
        | cons z r =>
          simp only [Option.some.injEq] at hy
          subst hy
          obtain ⟨h1,h2⟩:=hu 0 z rfl
          refine ⟨u 0,?_,h2⟩
          have hagg:(isAgg t).run P w = .ok false w:=by
           cases d <;> first
            | (simp [isAgg,run_underlying hd,Sem.run_bind,Sem.run_pure]; done)
            | simp [TypeDesc.isRow] at hf
          simp [Instr.loadAt,Instr.sureAddr,loadVar,hagg,load,Sem.run_bind,Sem.run_pure,Sem.run,show w.cell? ⟨g,o,none⟩=some (u 0) from h1]
     have many:d.isRow=true→∃ v,(Instr.loadAt t (.pointer (some ⟨g,o,none⟩))).run P w = .ok v w∧AVR c w y v:=by
        intro hrow
        rw [hrow] at hy
        simp only [cond_true] at hy
        cases hb:Nat.ble i.size cs.length with
        | false=>rw [hb] at hy; simp at hy
        | true =>
          rw [hb] at hy
          simp only [cond_true,Option.some.injEq] at hy
          subst hy
          have hle:=(eH _ _).1 hb
          have hvs:∀ (j:Nat) (v:Value),((List.range i.size).map u)[j]? = some v→j<i.size∧v=u j:=by
           intro j v hv
           rw [List.getElem?_map,Option.map_eq_some_iff] at hv
           obtain ⟨k,hk,rfl⟩:=hv
           by_cases hj:j<i.size
           · rw [List.getElem?_range hj] at hk
             simp only [Option.some.injEq] at hk
             subst hk
             exact ⟨hj,rfl⟩
           · rw [List.getElem?_eq_none (by simp; omega)] at hk
             simp at hk
          have hcell:∀ j,j<i.size→∃ x,cs[j]? = some x:=fun j hj=>⟨_,List.getElem?_eq_getElem (by omega)⟩
          have hload:=run_loadVar_mid (P:=P) w g o t ((List.range i.size).map u) d (fun j v hv=>by
           obtain ⟨hj,rfl⟩:=hvs j v hv
           obtain ⟨x,hx⟩:=hcell j hj
           exact (hu j x hx).1) hd hrow (by simp [hi])
          refine ⟨.agg ((List.range i.size).map u).toArray,?_, .agg (u:=u) (by simp; omega) (fun j x hx=>?_) (fun j x hx=>?_)⟩
          · simp only [Instr.loadAt,Instr.sureAddr,Sem.run_bind]
            exact hload
          · have hj:j<i.size:=by
             by_cases h:j<i.size
             · exact h
             · rw [List.getElem?_take,if_neg h] at hx; simp at hx
            simp [hj]
          · have hx' : cs[j]? = some x:=by
             rw [List.getElem?_take] at hx
             split at hx
             · exact hx
             · simp at hx
            exact (hu j x hx').2
     cases d <;> first
        | exact many rfl
        | exact one rfl
 · simp at hy
end
section
section
variable {P:Program} {T:Tab} {n0:Nat} {c:Ctx} {H:List aA} {w:World} {env:Env} {a:Act} {o:Oper}
theorem aFV {x:Option AV} (h:∀ y,x=some y→Pure1 P c w o a y):PureSpec P c w H o a (okV H x):=by
 cases x with
 | none=>trivial
 | some y=>exact fun _=>⟨rfl,h y rfl⟩
theorem aRI (hH:HR n0 c H w) {id:Nat} {cs:List AV} (hobj:aF H id = .box cs):∃ (g:Nat) (arr:Array Value),c.m id = .pointer (some ⟨g,0,none⟩) ∧
 ∀ (j:Nat) (x:AV),cs[j]? = some x→w.cell? ⟨g,j,none⟩=some (arr.getD j default)∧AVR c w x (arr.getD j default):=by
 have:=hH.obj id (cU (by rw [hobj]; simp))
 rw [hobj] at this
 obtain ⟨g,Ty,arr,h1,h2,h3,h4,h5,h6⟩:=this
 refine ⟨g,arr,h1,fun j x hx=>⟨?_,h5 j x hx⟩⟩
 have hj:j<cs.length:=by
  by_cases h:j<cs.length
  · exact h
  · rw [List.getElem?_eq_none (by omega)] at hx; simp at hx
 rw [cell_of_row w g j arr Ty (0,0) h3]
 simp [Array.getD_eq_getD_getElem?, Array.getElem?_eq_getElem (show j<arr.size by omega)]
theorem aFW (hH:HR n0 c H w) {id:Nat} {e:ETy} {xs:List e.D} {fz:Bool} (hobj:aF H id = .typed e xs fz) {g n k:Nat} (hm:c.m id = .slice (some ⟨g,0,none⟩) n k) {i:Nat} (hi:i<n) :
 n=xs.length∧∀ (j:Nat) (x:AV),(dD e (xs.getD i e.dflt))[j]? = some x→∃ u,w.cell? ⟨g,i * e.size+j,none⟩=some u∧AVR c w x u:=by
 have:=hH.obj id (cU (by rw [hobj]; simp))
 rw [hobj] at this
 obtain ⟨hz,⟨Ty,cells,hown,hrow⟩,_⟩:=this
 have hn:n=xs.length:=by
  rcases hown.2 with ⟨hv,h0⟩ | ⟨g', cap,cur,hv,_⟩
  · rw [hm] at hv; simp at hv
  · rw [hm] at hv; simp at hv; omega
 refine ⟨hn,fun j x hx=>?_⟩
 have hget:xs[i]? = some (xs.getD i e.dflt):=by
  rw [List.getD_eq_getElem?_getD,List.getElem?_eq_getElem (by omega)]; rfl
 obtain ⟨vs,hvs,hc⟩:=hrow i _ hget
 obtain ⟨h1,h2⟩:=m8 hvs j x hx
 refine ⟨_,?_,h2⟩
 have:=hown.cells (g:=g) (by rw [hm]; rfl) _ _ (hc j _ h1)
 rw [fW,Nat.zero_add] at this
 exact this
theorem aFX {e:ETy} {xs:List e.D}:∀ {n i0 j:Nat} {x:AV},(mG e xs n i0)[j]? = some x→∃ i k,i<n∧j=i * e.size+k∧(dD e (xs.getD (i0+i) e.dflt))[k]? = some x
 | 0,i0,j,x,h=>by simp [mG] at h
 | n + 1,i0,j,x,h=>by
   have hl:∀ (e:ETy) (y:e.D),(dD e y).length=e.size:=by
     intro e
     induction e using ETy.rec (motive_1:=fun _=>True) with
     | one t _=>intro y; rfl
     | more t e _ ih=>intro y; simp [dD,ETy.size,ih]
     | _=>trivial
   simp only [mG] at h
   by_cases hj:j<e.size
   · rw [List.getElem?_append_left (by rw [hl]; exact hj)] at h
     exact ⟨0,j,by omega,by omega,h⟩
   · rw [List.getElem?_append_right (by rw [hl]; omega),hl] at h
     obtain ⟨i,k,h1,h2,h3⟩:=aFX h
     refine ⟨i+1,k,by omega,by rw [Nat.add_mul]; omega,?_⟩
     rw [show i0+(i+1)=i0+1+i by omega]
     exact h3
theorem aBC (hH:HR n0 c H w) (h:EnvR c w env a.tmps) (hT:bC P T) {t:TypeId} {x:Operand} (ho:o.op = .load t x):PureSpec P c w H o a (iP T H t (aD env x)):=by
 have hx:=bN h x
 generalize hv:a.eval x=vx at *
 generalize aD env x=X at *
 have fin:∀ {g o' : Nat} {cs:List AV},vx = .pointer (some ⟨g,o', none⟩)→(∀ (j:Nat) (x:AV),cs[j]? = some x→∃ u,w.cell? ⟨g,o' + j,none⟩=some u∧AVR c w x u)→PureSpec P c w H o a (okV H (whole T t cs)):=by
  intro g o' cs hp hc
  refine aFV fun y hy=>?_
  obtain ⟨v,hrun,hr⟩:=aFU (c:=c) (w:=w) hT hy (g:=g) (o:=o') (fun j=>(w.cell? ⟨g,o' + j,none⟩).getD default) (fun j x hx=>by
   obtain ⟨u,h1,h2⟩:=hc j x hx
   rw [h1]; exact ⟨rfl,h2⟩)
  refine ⟨v,?_,hr⟩
  simp only [execOp,ho,hv,hp,Sem.run_bind,hrun,Result.andThen_ok,Sem.run_pure]
 unfold iP
 split
 · rename_i id off
   split
   · rename_i cs hobj
     generalize hvx:vx=vy at hx
     cases hx with
     | ptr hb hm =>
       obtain ⟨g', arr,h1,h2⟩:=aRI hH hobj
       rw [hm] at h1
       simp only [Value.pointer.injEq,Option.some.injEq,Addr.mk.injEq,and_true] at h1
       subst h1
       refine fin hvx fun j x hx=>?_
       rw [List.getElem?_drop] at hx
       exact ⟨_,h2 _ x hx⟩
   · trivial
 · rename_i id i off
   split
   · rename_i e xs fz hobj
     generalize hvx:vx=vy at hx
     cases hx with
     | elt hb hm h0 h1 h2 =>
       obtain ⟨_,_,_,_,hz,_⟩:=gW hH hobj
       obtain ⟨_,h4⟩:=aFW hH hobj hm (i:=i.toNat) (by omega)
       refine fin hvx fun j x hx=>?_
       rw [List.getElem?_drop] at hx
       obtain ⟨u,h5,h6⟩:=h4 _ x hx
       refine ⟨u,?_,h6⟩
       rw [hz,Nat.add_assoc]
       exact h5
   · trivial
 · rename_i cs
   generalize hvx:vx=vy at hx
   cases hx with
   | adr hg u h1 h2=>exact fin hvx fun j x hx=>⟨u j,h1 j x hx,h2 j x hx⟩
 · rename_i id
   split
   · rename_i e xs fz hobj
     generalize hvx:vx=vy at hx
     cases hx with
     | parr hb hm hk =>
       rename_i g n k
       show PureSpec P c w H o a (kZ T H t e xs)
       unfold kZ
       split
       · rename_i y hy
         intro hlen
         have hlen' := Nat.eq_of_beq_eq_true hlen
         have hn:n=xs.length:=by
          obtain ⟨A,cap,h1,_⟩:=gW hH hobj
          rw [hm] at h1
          simp only [Value.slice.injEq] at h1
          exact h1.2.1
         have hc:∀ (j:Nat) (x:AV),(mG e xs (T.alen t) 0)[j]? = some x→∃ u,w.cell? ⟨g,0+j,none⟩=some u∧AVR c w x u:=fun j x hx=>by
          obtain ⟨i,k', h1,rfl,h3⟩:=aFX hx
          rw [Nat.zero_add] at h3 ⊢
          exact (aFW hH hobj hm (i:=i) (by omega)).2 k' x h3
         obtain ⟨v,hrun,hr⟩:=aFU (c:=c) (w:=w) hT hy (g:=g) (o:=0) (fun j=>(w.cell? ⟨g,0+j,none⟩).getD default) (fun j x hx=>by
          obtain ⟨u,h1,h2⟩:=hc j x hx
          rw [h1]; exact ⟨rfl,h2⟩)
         refine ⟨rfl,v,?_,hr⟩
         simp only [execOp,ho,hv,hvx,Sem.run_bind,hrun,Result.andThen_ok,Sem.run_pure]
       · trivial
   · trivial
 · trivial
end
end
section
theorem m9 (v:Value) (g:Nat) (h:v.ownBlock=some g):blk v=some g:=by
 cases v <;> simp [Value.ownBlock] at h
 rename_i A n k
 cases A with
 | none=>simp at h
 | some ad=>simpa [blk] using h
theorem ObjR.mono {n0:Nat} {c c' : Ctx} {w w' : World} {id:Nat} {ob:aA} (hc:Ctx.le c c') (hid:id<c.n) (hS:∀ g,blk (c.m id)=some g→c'.S g→c.S g)
 (hw:∀ g,c.S g→w'.heap[g]? = w.heap[g]?) (hb:∀ g,blk (c.m id)=some g→w'.heap[g]? = w.heap[g]?) (h:ObjR n0 c w id ob):ObjR n0 c' w' id ob:=by
 cases ob with
 | dead=>trivial
 | box cs =>
   obtain ⟨g,Ty,arr,h1,h2,h3,h4,h5,h6⟩:=h
   have hbg:=hb g (by rw [h1]; rfl)
   exact ⟨g,Ty,arr,(hc.m _ hid).trans h1,h2,hbg.trans h3,h4,fun j x hx=>(h5 j x hx).mono hc hw,fun hg=>h6 (hS g (by rw [h1]; rfl) hg)⟩
 | typed e xs fz =>
   obtain ⟨hz,⟨Ty,cells,hown,hrow⟩,hst⟩:=h
   refine ⟨(hc.z _ hid).trans hz,⟨Ty,cells,?_,fun i x hx=>?_⟩,fun g hg=>?_⟩
   · rw [hc.m _ hid]
     refine ⟨hown.1,?_⟩
     rcases hown.2 with hn | ⟨g,cap,cur,hv,hb0,hh,rest⟩
     · exact .inl hn
     · exact .inr ⟨g,cap,cur,hv,hb0,(hb g (by rw [hv]; rfl)).trans hh,rest⟩
   · obtain ⟨vs,h1,h2⟩:=hrow i x hx
     exact ⟨vs,ElemR.mono hc.S hw h1,h2⟩
   · rw [hc.m _ hid] at hg
     exact ⟨fun hf=>hc.S _ ((hst g hg).1 hf),fun hf hs=>(hst g hg).2 hf (hS g hg hs)⟩
def Ctx.more (c:Ctx) (v:Value) (z:Nat) (S:Nat→Prop):Ctx:=⟨c.n+1,fun id=>if id=c.n then v else c.m id,fun id=>if id=c.n then z else c.z id,S,c.S0⟩
theorem Ctx.more_le (c:Ctx) (v:Value) (z:Nat) {S:Nat→Prop} (hS:∀ g,c.S g→S g):Ctx.le c (c.more v z S) :=
 ⟨Nat.le_succ _,fun id hi=>by simp [Ctx.more,show ¬ id=c.n by omega],fun id hi=>by simp [Ctx.more,show ¬ id=c.n by omega],hS,rfl⟩
theorem uD (H:List aA) (o:aA) (id:Nat):aF (H ++ [o]) id=if id<H.length then aF H id else if id=H.length then o else .dead:=by
 rw [fF,fF]
 by_cases h:id<H.length
 · rw [if_pos h,List.getElem?_append_left h]
 · rw [if_neg h]
   by_cases h1:id=H.length
   · rw [if_pos h1,h1]; simp
   · rw [if_neg h1,List.getElem?_eq_none (by simp; omega)]; rfl
theorem HR.push {n0:Nat} {c:Ctx} {H:List aA} {w w' : World} (h:HR n0 c H w) {v:Value} {z:Nat} {ob:aA} (hold:∀ g,g<w.heap.size→w'.heap[g]? = w.heap[g]?) (hSs:∀ g,c.S g→g<w.heap.size)
 (hlt:∀ id g,id<H.length→aV (aF H id)=true→blk (c.m id)=some g→g<w.heap.size) (hnew:∀ g,blk v=some g→w.heap.size≤g)
 (hob:ObjR n0 (c.more v z c.S) w' c.n ob):HR n0 (c.more v z c.S) (H ++ [ob]) w' := by
 have hcl:=h.len
 have hle:=Ctx.more_le c v z (S:=c.S) (fun _ hg=>hg)
 refine ⟨by simp [Ctx.more,hcl],fun id hid=>?_,fun i j g hi hj hne ai aj bi=>?_⟩
 · rw [uD]
   by_cases h1:id<H.length
   · rw [if_pos h1]
     by_cases hal:aV (aF H id)=true
     · exact (h.obj id h1).mono hle (by omega) (fun _ _ hg=>hg) (fun g hg=>hold g (hSs g hg)) (fun g hg=>hold g (hlt id g h1 hal hg))
     · cases ho:aF H id with
       | dead=>trivial
       | typed e xs fz=>rw [ho] at hal; simp [aV] at hal
       | box cs=>rw [ho] at hal; simp [aV] at hal
   · rw [if_neg h1,if_pos (by simp at hid; omega),show id=c.n by simp at hid; omega]
     exact hob
 · simp only [List.length_append,List.length_singleton] at hi hj
   rw [uD] at ai aj
   have em:∀ k,k<H.length→(c.more v z c.S).m k=c.m k:=fun k hk=>by simp [Ctx.more,show ¬ k=c.n by omega]
   have en:(c.more v z c.S).m H.length=v:=by simp [Ctx.more,hcl]
   by_cases h1:i<H.length
   · rw [if_pos h1] at ai
     rw [em i h1] at bi
     by_cases h2:j<H.length
     · rw [if_pos h2] at aj
       rw [em j h2]
       exact h.dist i j g h1 h2 hne ai aj bi
     · have hj' : j=H.length:=by omega
       subst hj'
       rw [en]
       intro hg
       have:=hnew g hg
       have:=hlt i g h1 ai bi
       omega
   · have hi' : i=H.length:=by omega
     subst hi'
     rw [en] at bi
     have h2:j<H.length:=by omega
     rw [if_pos h2] at aj
     rw [em j h2]
     intro hg
     have:=hnew g bi
     have:=hlt j g h2 aj hg
     omega
theorem HR.lt {n0:Nat} {c:Ctx} {H:List aA} {w:World} (h:HR n0 c H w) (id g:Nat) (hid:id<H.length) (hal:aV (aF H id)=true) (hb:blk (c.m id)=some g):g<w.heap.size:=by
 have ho:=h.obj id hid
 cases hobj:aF H id with
 | dead=>rw [hobj] at hal; simp [aV] at hal
 | box cs =>
   rw [hobj] at ho
   obtain ⟨g', Ty,arr,h1,_,h3,_⟩:=ho
   rw [h1] at hb
   simp only [blk,Option.some.injEq] at hb
   subst hb
   exact (Array.getElem?_eq_some_iff.1 h3).1
 | typed e xs fz =>
   rw [hobj] at ho
   obtain ⟨_,⟨Ty,cells,hown,_⟩,_⟩:=ho
   rcases hown.2 with ⟨hv,_⟩ | ⟨g', cap,cur,hv,_,hh,_⟩
   · rw [hv] at hb; simp [blk] at hb
   · rw [hv] at hb
     simp only [blk,Option.some.injEq] at hb
     subst hb
     exact (Array.getElem?_eq_some_iff.1 hh).1
theorem HR.base' {n0:Nat} {c:Ctx} {H:List aA} {w:World} (h:HR n0 c H w) {id g:Nat} (hid:id<H.length) (hal:aV (aF H id)=true) (hb:blk (c.m id)=some g):n0≤g:=by
 have ho:=h.obj id hid
 cases hobj:aF H id with
 | dead=>rw [hobj] at hal; simp [aV] at hal
 | box cs =>
   rw [hobj] at ho
   obtain ⟨g', Ty,arr,h1,h2,h3,_⟩:=ho
   rw [h1] at hb
   simp only [blk,Option.some.injEq] at hb
   omega
 | typed e xs fz =>
   rw [hobj] at ho
   obtain ⟨_,⟨Ty,cells,hown,_⟩,_⟩:=ho
   rcases hown.2 with ⟨hv,_⟩ | ⟨g', cap,cur,hv,hn,hh,_⟩
   · rw [hv] at hb; simp [blk] at hb
   · rw [hv] at hb
     simp only [blk,Option.some.injEq] at hb
     omega
end
section
theorem aFY {c:Ctx} {w:World} {x:AV} {v:Value} (h:AVR c w x v) (hx:jC x=true):v.oneCell' = true∧v.cells = #[v]:=by
 cases h <;> first
  | (simp [jC] at hx; done)
  | exact ⟨rfl,rfl⟩
  | skip
 · rename_i e l hc
   simp only [CellR] at hc
   obtain ⟨A,cap,rfl,_⟩:=hc
   exact ⟨rfl,rfl⟩
 · cases v <;> first | (simp [jC] at hx; done) | exact ⟨rfl,rfl⟩
theorem aFZ : ∀ {l:List AV},tJ l=true→∀ (j:Nat) (y:AV),l[j]? = some y→jC y=true
 | [],_,j,y,hy=>by simp at hy
 | x :: l,h,j,y,hy=>by
   have h' : (bif jC x then tJ l else false)=true:=h
   cases hx:jC x with
   | false=>rw [hx] at h'; simp at h'
   | true =>
     rw [hx] at h'
     cases j with
     | zero=>simp only [List.getElem?_cons_zero,Option.some.injEq] at hy; subst hy; exact hx
     | succ j=>exact aFZ (show tJ l=true from h') j y (by simpa using hy)
theorem aF0 {c:Ctx} {w:World} {x:AV} {v:Value} (h:AVR c w x v) (hx:gT x=true):(cellsOf x).length=v.cells.size ∧
 ∀ (j:Nat) (y:AV),(cellsOf x)[j]? = some y→AVR c w y (v.cells.getD j default)∧(v.cells.getD j default).oneCell' = true:=by
 have one:cellsOf x=[x]→jC x=true→(cellsOf x).length=v.cells.size∧∀ (j:Nat) (y:AV),(cellsOf x)[j]? = some y→AVR c w y (v.cells.getD j default)∧(v.cells.getD j default).oneCell' = true:=by
  intro hc hi
  obtain ⟨h1,h2⟩:=aFY h hi
  rw [hc,h2]
  refine ⟨rfl,fun j y hy=>?_⟩
  cases j with
  | zero=>simp only [List.getElem?_cons_zero,Option.some.injEq] at hy; subst hy; exact ⟨h,h1⟩
  | succ j=>simp at hy
 cases x with
 | agg cs =>
   cases h with
   | agg hl u h1 h2 =>
     rename_i vs
     refine ⟨hl,fun j y hy=>?_⟩
     have e:(Value.agg vs).cells.getD j default=u j:=by
       show vs.getD j default=u j
       simp [Array.getD_eq_getD_getElem?, h1 j y hy]
     rw [e]
     exact ⟨h2 j y hy,(aFY (h2 j y hy) (aFZ hx j y hy)).1⟩
 | _=>exact one rfl hx
structure Mem (n0:Nat) (c:Ctx) (H:List aA) (w:World):Prop where
 obj:HR n0 c H w
 base:n0≤w.heap.size
 stab:∀ g,c.S g→g<w.heap.size
 old:∀ g,c.S g→g<n0→c.S0 g
def MemSpec (P:Program) (n0:Nat) (c:Ctx) (w:World) (o:Oper) (a:Act) (x:AV) (H' : List aA):Prop :=
 ∃ v w' c', (execOp a.eval o).run P w = .ok (.value v) w' ∧ Ctx.le c c' ∧ AVR c' w' x v∧Mem n0 c' H' w' ∧ RowKit.Below n0 w w' ∧ ∀ g,c.S g→w'.heap[g]? = w.heap[g]?
section
variable {P:Program} {T:Tab} {n0:Nat} {c:Ctx} {H:List aA} {w:World} {env:Env} {a:Act} {o:Oper}
theorem s_box (hM:Mem n0 c H w) (h:EnvR c w env a.tmps) {t:TypeId} {x:Operand} (ho:o.op = .box t x) (hv:gT (aD env x)=true) :
 MemSpec P n0 c w o a (.ptr H.length 0) (H ++ [.box (cellsOf (aD env x))]):=by
 have hx:=bN h x
 obtain ⟨h1,h2⟩:=aF0 hx hv
 have hold:∀ g,g<w.heap.size→(w.alloc (.cells (a.eval x).cells t)).heap[g]? = w.heap[g]? := fun g hg=>heap_alloc_old w _ g hg
 have hle:=Ctx.more_le c (.pointer (some ⟨w.heap.size,0,none⟩)) 0 (S:=c.S) (fun _ hg=>hg)
 have hS:∀ g,c.S g→(w.alloc (.cells (a.eval x).cells t)).heap[g]? = w.heap[g]? := fun g hg=>hold g (hM.stab g hg)
 refine ⟨.pointer (some ⟨w.heap.size,0,none⟩),w.alloc (.cells (a.eval x).cells t),c.more (.pointer (some ⟨w.heap.size,0,none⟩)) 0 c.S,?_,hle,?_,⟨?_,?_,?_,fun g hg hl=>hM.old g hg hl⟩,?_,hS⟩
 · simp [execOp,ho,Instr.box,newVar,newRow,newObj,Sem.run_bind,Sem.run_pure,Sem.run]
 · exact .ptr (off:=0) (by simp [Ctx.more,hM.obj.len]) (by simp [Ctx.more,hM.obj.len])
 · refine hM.obj.push hold hM.stab (fun id g hid hal hb=>hM.obj.lt id g hid hal hb) (fun g hg=>by simp [blk] at hg; omega) ?_
   refine ⟨w.heap.size,t,(a.eval x).cells,by simp [Ctx.more],hM.base,heap_alloc_new w _,h1.symm,fun j y hy=>((h2 j y hy).1).mono hle hS,fun hg=>?_⟩
   have:=hM.stab _ hg
   omega
 · have:=hM.base
   simp; omega
 · intro g hg
   have:=hM.stab g hg
   simp; omega
 · exact (RowKit.Below.refl n0 w).alloc hM.base _
end
end
section
section
variable {P:Program} {T:Tab} {n0:Nat} {c:Ctx} {H:List aA} {w:World} {env:Env} {a:Act} {o:Oper}
theorem aF1 {t:TypeId} {ts:Array TypeId} {x:Operand} (ho:o.op = .call { callee := .builtin .len,args:=#[x],argTypes:=ts }) (ht:ts[0]? = some t) {d:TypeDesc} (hd:P.underlying t=some d) {n:Nat}
 (hv:(∃ s,d = .string∧a.eval x = .string s∧n=s.size)∨(∃ e A k,d = .slice e∧a.eval x = .slice A n k)):(execOp a.eval o).run P w = .ok (.value (.int .i64 (n:Int))) w:=by
 rcases hv with ⟨s,rfl,hx,rfl⟩ | ⟨e,A,k,rfl,hx⟩
 · simp [execOp,ho,resolve,invoke,builtin,Builtin.len_,ht,hx,run_underlying hd,goInt,Sem.run_bind,Sem.run_pure]
 · simp [execOp,ho,resolve,invoke,builtin,Builtin.len_,ht,hx,run_underlying hd,goInt,Sem.run_bind,Sem.run_pure]
theorem s_len (hH:HR n0 c H w) (h:EnvR c w env a.tmps) (hT:bC P T) {t:TypeId} {ts:Array TypeId} {x:Operand} (ho:o.op = .call { callee := .builtin .len,args:=#[x],argTypes:=ts }) (ht:ts[0]? = some t) :
 PureSpec P c w H o a (jW (T.kind t) H (aD env x)):=by
 have hx:=bN h x
 have row:(T.kind t = .slice∨T.kind t = .bytes)→PureSpec P c w H o a (kY H (aD env x)):=by
  intro hk
  obtain ⟨e,he⟩:=j5 hT hk
  unfold kY
  cases hr:jD (aD env x) with
  | false=>trivial
  | true =>
    simp only [cond_true]
    cases hn:lenOf H (aD env x) with
    | none=>trivial
    | some n =>
      intro _
      rcases aRA hH hx hn with ⟨A,cap,hv⟩ | ⟨s,hs,_⟩ | ⟨id,hs⟩
      · exact ⟨rfl,_,aF1 ho ht he (.inr ⟨e,A,cap,rfl,hv⟩), .int _ _⟩
      · rw [hs] at hr; simp [jD] at hr
      · rw [hs] at hr; simp [jD] at hr
 unfold jW
 split
 · rename_i hk
   have hks:=qI hT hk
   generalize hX:aD env x=X at *
   unfold aAO
   split
   · rename_i s
     intro _
     exact ⟨rfl,_,aF1 ho ht hks (.inl ⟨s,rfl,iE hx,rfl⟩), .int _ _⟩
   · trivial
 · rename_i hk; exact row (.inl hk)
 · rename_i hk; exact row (.inr hk)
 · trivial
end
end
section
theorem k9 {α:Type} (l:List α) (i:Nat):nth l i=l[i]? := by
 induction l generalizing i with
 | nil=>rfl
 | cons x l ih =>
   cases i with
   | zero=>rfl
   | succ n=>exact (ih n).trans (by simp)
theorem aF2 {P:Program} {T:Tab} (hT:bC P T) {s:TypeId} {f:Nat} {q:Nat × TypeId} (h:pQ T s f=some q) :
 ∃ (fs:Array Field) (fl:Field) (i:TypeInfo),P.underlying s=some (.struct fs)∧fs[f]? = some fl∧q=(fl.offset,fl.type)∧P.info? fl.type=some i∧0<i.size:=by
 unfold pQ at h
 split at h
 · rename_i x hx
   have:=hT.ty _ _ hx
   subst this
   split at h
   · rename_i p hp
     rw [k9] at hp
     unfold aFC at h
     split at h
     · rename_i y hy
       have:=hT.ty _ _ hy
       subst this
       cases hb:Nat.blt 0 (aY P p.2).size with
       | false=>rw [hb] at h; simp at h
       | true =>
         rw [hb] at h
         simp only [cond_true,Option.some.injEq] at h
         subst h
         have hpos:=(dW _ _).1 hb
         simp only [aY,Program.cellsOf] at hpos
         cases hi:P.info? p.2 with
         | none=>rw [hi] at hpos; simp at hpos
         | some i =>
           rw [hi] at hpos
           simp only [aY] at hp
           cases hu:P.underlying s with
           | none=>rw [hu] at hp; simp at hp
           | some d =>
             rw [hu] at hp
             cases d with
             | struct fs =>
               simp only [List.getElem?_map,Option.map_eq_some_iff] at hp
               obtain ⟨fl,h1,h2⟩:=hp
               subst h2
               exact ⟨fs,fl,i,rfl,by simpa using h1,rfl,hi,by simpa using hpos⟩
             | _=>simp at hp
     · simp at h
   · simp at h
 · simp at h
section
variable {P:Program} {T:Tab} {n0:Nat} {c:Ctx} {H:List aA} {w:World} {env:Env} {a:Act} {o:Oper}
theorem aF3 (hH:HR n0 c H w) (h:EnvR c w env a.tmps) (hT:bC P T) {t:TypeId} {x:Operand} {f:Nat} (ho:o.op = .fieldAddr t x f):PureSpec P c w H o a (mM T H t (aD env x) f):=by
 have hx:=bN h x
 have run:∀ {q:Nat × TypeId},pQ T t f=some q→∀ {g o' : Nat},a.eval x = .pointer (some ⟨g,o', none⟩)→(execOp a.eval o).run P w = .ok (.value (.pointer (some ⟨g,o' + q.1,none⟩))) w:=by
  intro q hq g o' hv
  obtain ⟨fs,fl,i,h1,h2,rfl,h3,h4⟩:=aF2 hT hq
  have h5:¬ i.size=0:=by omega
  simp [execOp,ho,hv,Instr.fieldAt,Instr.sureAddr,fieldPlace,run_underlying h1,h2,sizeOf,typeInfo,h3,h5,fW,Sem.run_bind,Sem.run_pure]
 generalize hv:a.eval x=vx at *
 generalize aD env x=X at *
 unfold mM
 split
 · rename_i id off o' u hq
   intro _
   generalize hvx:vx=vy at hx
   cases hx with
   | ptr hb hm=>exact ⟨rfl,_,run hq hvx, .ptr hb hm⟩
 · rename_i id i off o' u hq
   split
   · rename_i e xs fz hobj
     intro hg
     generalize hvx:vx=vy at hx
     cases hx with
     | elt hb hm h0 h1 h2 =>
       obtain ⟨_,_,_,_,hz,_⟩:=gW hH hobj
       refine ⟨rfl,_,run hq hvx,?_⟩
       rw [Nat.add_assoc]
       exact .elt hb hm h0 h1 (by rw [hz]; exact (dW _ _).1 hg)
   · trivial
 · rename_i cs o' u hq
   intro _
   generalize hvx:vx=vy at hx
   cases hx with
   | adr hg u h1 h2 =>
     rename_i g o2
     refine ⟨rfl,_,run hq hvx, .adr hg (fun j=>u (o' + j)) (fun j y hy=>?_) (fun j y hy=>?_)⟩
     · rw [List.getElem?_drop] at hy
       rw [Nat.add_assoc]
       exact h1 _ y hy
     · rw [List.getElem?_drop] at hy
       exact h2 _ y hy
 · trivial
end
end
section
def CellsR (c:Ctx) (w:World) (cs:List AV) (vs:List Value):Prop:=cs.length=vs.length∧∀ (j:Nat) (x:AV),cs[j]? = some x→AVR c w x (vs.getD j default)
theorem CellsR.agg {c:Ctx} {w:World} {cs:List AV} {vs:Array Value} (h:CellsR c w cs vs.toList):AVR c w (.agg cs) (.agg vs):=by
 have hl:cs.length=vs.size:=by simpa using h.1
 refine .agg hl (fun j=>vs.toList.getD j default) (fun j x hx=>?_) (fun j x hx=>h.2 j x hx)
 have hj:j<vs.size:=by
  by_cases hj:j<cs.length
  · omega
  · rw [List.getElem?_eq_none (by omega)] at hx; simp at hx
 rw [Array.getElem?_eq_getElem hj,List.getD_eq_getElem?_getD]
 simp [hj]
theorem aRJ {c:Ctx} {w:World} {cs:List AV} {v:Value} (h:AVR c w (.agg cs) v):∃ vs:Array Value,v = .agg vs∧CellsR c w cs vs.toList:=by
 cases h with
 | agg hl u h1 h2 =>
   rename_i vs
   refine ⟨vs,rfl,by simpa using hl,fun j x hx=>?_⟩
   have:=h1 j x hx
   rw [List.getD_eq_getElem?_getD]
   simp only [Array.getElem?_toList,this,Option.getD_some]
   exact h2 j x hx
theorem nA {c:Ctx} {w:World} {x:AV} {v:Value} (h:AVR c w x v) (hx:gT x=true):CellsR c w (cellsOf x) v.cells.toList∧∀ u∈v.cells.toList,u.oneCell' = true:=by
 obtain ⟨h1,h2⟩:=aF0 h hx
 refine ⟨⟨by simpa using h1,fun j y hy=>?_⟩,fun u hu=>?_⟩
 · have:=(h2 j y hy).1
   rwa [List.getD_eq_getElem?_getD,Array.getElem?_toList,← Array.getD_eq_getD_getElem?]
 · obtain ⟨j,hj⟩:=List.mem_iff_getElem?.1 hu
   have hlt:j<v.cells.size:=by
    have:=List.getElem?_eq_some_iff.1 hj
    simpa using this.1
   have hlt2:j<(cellsOf x).length:=by omega
   have:=(h2 j _ (List.getElem?_eq_getElem hlt2)).2
   rw [Array.getElem?_toList] at hj
   simpa [Array.getD_eq_getD_getElem?, hj] using this
theorem qK {α:Type}:∀ (l:List α) (i:Nat) (v:α),c7 l i v=l.set i v
 | [],_,_=>rfl
 | x :: l,0,v=>rfl
 | x :: l,i+1,v=>by
   show x :: c7 l i v=x :: l.set i v
   rw [qK l i v]
theorem CellsR.set {c:Ctx} {w:World} {cs:List AV} {vs:List Value} (h:CellsR c w cs vs) (i:Nat) {x:AV} {v:Value} (hx:AVR c w x v):CellsR c w (c7 cs i x) (vs.set i v):=by
 rw [qK]
 refine ⟨by simpa using h.1,fun j y hy=>?_⟩
 rw [List.getElem?_set] at hy
 rw [List.getD_eq_getElem?_getD,List.getElem?_set]
 split at hy
 · rename_i he
   split at hy
   · simp only [Option.some.injEq] at hy
     subst hy
     rw [if_pos he,if_pos (by rw [← h.1]; assumption)]
     exact hx
   · simp at hy
 · rename_i he
   rw [if_neg he,← List.getD_eq_getElem?_getD]
   exact h.2 j y hy
def lay : List Value→Nat→List Value→List Value
 | cs,_,[]=>cs
 | cs,i,v :: r=>lay (cs.set i v) (i+1) r
theorem qL : ∀ (cs:List Value) (i:Nat) (l:List Value),(lay cs i l).length=cs.length
 | cs,i,[]=>rfl
 | cs,i,v :: r=>by simp [lay,qL]
theorem j6 : ∀ (cs:List Value) (i:Nat) (l:List Value),i+l.length≤cs.length→lay cs i l=cs.take i ++ l ++ cs.drop (i+l.length)
 | cs,i,[],h=>by simp [lay]
 | cs,i,v :: r,h=>by
   simp only [List.length_cons] at h ⊢
   rw [lay,j6 _ _ _ (by simp; omega)]
   apply List.ext_getElem?
   intro j
   simp only [List.getElem?_append,List.getElem?_take,List.getElem?_drop,List.length_append,List.length_take,List.length_set,List.length_cons,List.getElem?_set,List.getElem?_cons]
   by_cases h1:j<i
   · simp [show j<min (i+1) cs.length+r.length by omega,show j<min (i+1) cs.length by omega,show j<i+1 by omega,show ¬ i=j by omega,show j<min i cs.length+(r.length+1) by omega,show j<min i cs.length by omega,h1]
   · by_cases h2:j=i
     · subst h2
       simp [show j<min (j+1) cs.length+r.length by omega,show j<min (j+1) cs.length by omega,show j<cs.length by omega,show j<min j cs.length+(r.length+1) by omega,show ¬ j<min j cs.length by omega,show min j cs.length=j by omega]
     · by_cases h3:j<i+1+r.length
       · simp [show j<min (i+1) cs.length+r.length by omega,show ¬ j<min (i+1) cs.length by omega,show j<min i cs.length+(r.length+1) by omega,show ¬ j<min i cs.length by omega,show ¬ j - min i cs.length=0 by omega,show j - min i cs.length - 1=j - min (i+1) cs.length by omega]
       · simp [show ¬ j<min (i+1) cs.length+r.length by omega,show ¬ j<min i cs.length+(r.length+1) by omega]
         have e1:i+1+r.length+(j - (min (i+1) cs.length+r.length))=j:=by omega
         have e2:i+(r.length+1)+(j - (min i cs.length+(r.length+1)))=j:=by omega
         rw [e1,e2,if_neg (by omega)]
theorem CellsR.patch {c:Ctx} {w:World}:∀ {new:List AV} {news:List Value} {cs:List AV} {vs:List Value} (i:Nat),CellsR c w cs vs→CellsR c w new news→CellsR c w (Mach.patch cs i new) (lay vs i news)
 | [],[],_,_,_,h,_=>h
 | [],_ :: _,_,_,_,_,h2=>by simp [CellsR] at h2
 | _ :: _,[],_,_,_,_,h2=>by simp [CellsR] at h2
 | x :: new,v :: news,cs,vs,i,h,h2=>by
   show CellsR c w (Mach.patch (c7 cs i x) (i+1) new) (lay (vs.set i v) (i+1) news)
   refine CellsR.patch (i+1) (h.set i (by simpa using h2.2 0 x rfl)) ⟨by simpa using h2.1,fun j y hy=>?_⟩
   simpa using h2.2 (j+1) y (by simpa using hy)
theorem aBD (off:Nat):∀ (l:List Value) (k:Nat) (cells:Array Value),((l.zipIdx k).foldl (fun cs (p:Value × Nat)=>cs.setIfInBounds (off+p.2) p.1) cells).toList=lay cells.toList (off+k) l
 | [],_,_=>rfl
 | v :: l,k,cells=>by
   rw [List.zipIdx_cons,List.foldl_cons,aBD off l (k+1),lay,Array.toList_setIfInBounds]
   rfl
section
variable {P:Program} {T:Tab} {n0:Nat} {c:Ctx} {H:List aA} {w:World} {env:Env} {a:Act} {o:Oper}
theorem aRK (hT:bC P T) {t:TypeId} {cs:List AV} {y:AV} (hy:whole T t cs=some y):∃ (d:TypeDesc) (i:TypeInfo),P.underlying t=some d∧P.info? t=some i ∧
 ((d.isRow=true∧i.size≤cs.length∧y = .agg (cs.take i.size))∨(d.isRow=false∧∃ r,cs=y :: r)):=by
 unfold whole at hy
 split at hy
 · rename_i x hf
   have hx:=hT.ty _ _ hf
   subst hx
   cases hok:(aY P t).okay with
   | false=>rw [hok] at hy; simp at hy
   | true =>
     rw [hok] at hy
     simp only [cond_true] at hy
     have hok' : (P.underlying t).isSome=true∧(P.info? t).isSome=true:=by simpa [aY] using hok
     obtain ⟨d,hd⟩:=Option.isSome_iff_exists.1 hok'.1
     obtain ⟨i,hi⟩:=Option.isSome_iff_exists.1 hok'.2
     have hsz:(aY P t).size=i.size:=by simp [aY,Program.cellsOf,hi]
     have hag:(aY P t).agg=d.isRow:=by
        simp only [aY,hd]
        cases d <;> rfl
     unfold aAI at hy
     rw [hag,hsz] at hy
     refine ⟨d,i,hd,hi,?_⟩
     cases hr:d.isRow with
     | false =>
       rw [hr] at hy
       simp only [cond_false] at hy
       cases cs with
       | nil=>simp at hy
       | cons z r =>
         simp only [Option.some.injEq] at hy
         exact .inr ⟨rfl,r,by rw [hy]⟩
     | true =>
       rw [hr] at hy
       simp only [cond_true] at hy
       cases hb:Nat.ble i.size cs.length with
       | false=>rw [hb] at hy; simp at hy
       | true =>
         rw [hb] at hy
         simp only [cond_true,Option.some.injEq] at hy
         exact .inl ⟨rfl,(eH _ _).1 hb,hy.symm⟩
 · simp at hy
theorem aF4 {t:TypeId} {d:TypeDesc} (hd:P.underlying t=some d):(isAgg t).run P w = .ok d.isRow w:=by
 cases d <;> simp [isAgg,run_underlying hd,Sem.run_bind,Sem.run_pure,TypeDesc.isRow]
theorem aRL (hT:bC P T) {t:TypeId} {cs:List AV} {vs:Array Value} (h:CellsR c w cs vs.toList) {off:Nat} {y:AV} (hy:whole T t (cs.drop off)=some y):∃ v,(part t vs off).run P w = .ok v w∧AVR c w y v:=by
 obtain ⟨d,i,hd,hi,h1⟩:=aRK hT hy
 have hl:cs.length=vs.size:=by simpa using h.1
 rcases h1 with ⟨hr,h2,rfl⟩ | ⟨hr,r,h2⟩
 · refine ⟨.agg (vs.extract off (off+i.size)),?_,CellsR.agg ⟨?_,fun j x hx=>?_⟩⟩
   · simp [part,aF4 hd,hr,sizeOf,typeInfo,hi,Sem.run_bind,Sem.run_pure]
   · simp only [List.length_take,List.length_drop] at h2 ⊢
     simp
     omega
   · rw [List.getElem?_take] at hx
     split at hx
     · rename_i hj
       rw [List.getElem?_drop] at hx
       have:=h.2 _ x hx
       rw [List.getD_eq_getElem?_getD] at this ⊢
       have e:(vs.extract off (off+i.size)).toList[j]? = vs.toList[off+j]? := by
         simp only [Array.getElem?_toList,Array.getElem?_extract]
         have:off+j<cs.length:=by
           by_cases hh:off+j<cs.length
           · exact hh
           · rw [List.getElem?_eq_none (by omega)] at hx; simp at hx
         rw [if_pos (by omega)]
       rw [e]; exact this
     · simp at hx
 · have h3:cs[off]? = some y:=by
    have:(cs.drop off)[0]? = some y:=by rw [h2]; rfl
    simpa using this
   have hj:off<vs.size:=by
    by_cases hj:off<cs.length
    · omega
    · rw [List.getElem?_eq_none (by omega)] at h3; simp at h3
   refine ⟨vs[off],?_,?_⟩
   · simp [part,aF4 hd,hr,hj,Sem.run_bind,Sem.run_pure]
   · have:=h.2 _ y h3
     rw [List.getD_eq_getElem?_getD] at this
     simpa [hj] using this
theorem aF5 (h:EnvR c w env a.tmps) (hT:bC P T) {t:TypeId} {x:Operand} {f:Nat} (ho:o.op = .field t x f):PureSpec P c w H o a (mL T H t (aD env x) f):=by
 have hx:=bN h x
 generalize hv:a.eval x=vx at *
 generalize aD env x=X at *
 unfold mL
 split
 · rename_i cs o' u hq
   obtain ⟨vs,rfl,hcs⟩:=aRJ hx
   obtain ⟨fs,fl,i,h1,h2,h3,h4,h5⟩:=aF2 hT hq
   simp only [Prod.mk.injEq] at h3
   obtain ⟨rfl,rfl⟩:=h3
   refine aFV fun y hy=>?_
   obtain ⟨v,hrun,hr⟩:=aRL hT hcs hy
   refine ⟨v,?_,hr⟩
   simp [execOp,ho,hv,Instr.field,run_underlying h1,h2,asAgg,hrun,Sem.run_bind,Sem.run_pure]
 · trivial
theorem aF6 (h:EnvR c w env a.tmps) (xs:Array Operand):CellsR c w (xs.toList.map (aD env)) (xs.map a.eval).toList:=by
 refine ⟨by simp,fun j x hx=>?_⟩
 rw [List.getElem?_map,Option.map_eq_some_iff] at hx
 obtain ⟨y,hy,rfl⟩:=hx
 have hy' : xs[j]? = some y:=by simpa using hy
 rw [List.getD_eq_getElem?_getD]
 simp only [Array.getElem?_toList,Array.getElem?_map,hy', Option.map_some,Option.getD_some]
 exact bN h y
theorem aF7 (h:EnvR c w env a.tmps) {f:Fn} {first caps:Array Operand} (ho:o.op = .makeFunc f first caps):PureSpec P c w H o a (k6 H env f first.toList caps.toList):=by
 unfold k6
 split
 · rename_i g hf
   intro _
   have hcs:=aF6 h caps
   have hfe:first = #[]:=by simpa using hf
   refine ⟨rfl, .func (.func g) #[] (caps.map a.eval),?_,?_⟩
   · simp [execOp,ho,hfe,Instr.makeFunc,Sem.run_bind,Sem.run_pure]
   · have h2:=hcs.agg
     cases h2 with
     | agg hl u h1 h3=>exact .fn hl u h1 h3
 · trivial
theorem aF8 {α β:Type} (f:α→Option β):∀ (l:List α) (r:List β),l.mapM f=some r→∀ (j:Nat) (x:α),l[j]? = some x→∃ y,f x=some y∧r[j]? = some y
 | [],r,h,j,x,hx=>by simp at hx
 | z :: l,r,h,j,x,hx=>by
   simp only [List.mapM_cons,Option.bind_eq_bind,Option.pure_def] at h
   cases hz:f z with
   | none=>simp [hz] at h
   | some y =>
     cases hl:l.mapM f with
     | none=>simp [hz,hl] at h
     | some r' =>
       simp [hz,hl] at h
       subst h
       cases j with
       | zero=>simp only [List.getElem?_cons_zero,Option.some.injEq] at hx; subst hx; exact ⟨y,hz,rfl⟩
       | succ j=>simpa using aF8 f l r' hl j x (by simpa using hx)
theorem lA (hT:bC P T) {t:TypeId} {x:TyT} (h:find T.ty t=some x):x=aY P t:=hT.ty _ _ h
theorem aF9 (hT:bC P T) {fs:List (Nat × TypeId)} {place:Nat→Option (Nat × Nat)} (hp:∀ (j:Nat) f,fs[j]? = some f→∃ i,P.info? f.2=some i∧place j=some (f.1,i.size)) :
 ∀ (parts:List (Nat × AV)) (vparts:List (Nat × Value)) (cs r:List AV) (vs:Array Value),parts.length=vparts.length→(∀ (j:Nat) (p:Nat × AV),parts[j]? = some p→∃ q,vparts[j]? = some q∧q.1=p.1∧AVR c w p.2 q.2) →
   CellsR c w cs vs.toList→pR T fs parts cs=some r→∃ us,Instr.fill place vs vparts=some us∧CellsR c w r us.toList
 | [],[],cs,r,vs,_,_,h,hr=>by
   simp only [pR,Option.some.injEq] at hr
   subst hr
   exact ⟨vs,rfl,h⟩
 | p :: parts,[],_,_,_,hl,_,_,_=>by simp at hl
 | [],_ :: _,_,_,_,hl,_,_,_=>by simp at hl
 | p :: parts, q :: vparts,cs,r,vs,hl,hq,h,hr=>by
   simp only [pR] at hr
   rw [k9] at hr
   obtain ⟨q', hq1,hq2,hq3⟩:=hq 0 p rfl
   simp only [List.getElem?_cons_zero,Option.some.injEq] at hq1
   subst hq1
   split at hr
   · rename_i f hf
     split at hr
     · rename_i x hx
       have hx' := lA hT hx
       subst hx'
       cases hv:gT p.2 with
       | false=>rw [hv] at hr; simp at hr
       | true =>
         rw [hv] at hr
         cases hb:Nat.beq (cellsOf p.2).length (aY P f.2).size with
         | false=>rw [hb] at hr; simp at hr
         | true =>
           rw [hb] at hr
           cases hle:Nat.ble (f.1+(cellsOf p.2).length) cs.length with
           | false=>rw [hle] at hr; simp at hr
           | true =>
             rw [hle] at hr
             simp only [cond_true] at hr
             have h1:=Nat.eq_of_beq_eq_true hb
             have h2:=(eH _ _).1 hle
             obtain ⟨hc1,_⟩:=nA hq3 hv
             have hcl:(cellsOf p.2).length=q.2.cells.size:=by simpa using hc1.1
             obtain ⟨i,hi,hpl⟩:=hp _ _ hf
             have hsz:(aY P f.2).size=i.size:=by simp [aY,Program.cellsOf,hi]
             obtain ⟨us,h3,h4⟩:=aF9 hT hp parts vparts _ r (q.2.cells.zipIdx.foldl (fun cs (x:Value × Nat)=>cs.setIfInBounds (f.1+x.2) x.1) vs) (by simpa using hl) (fun j p' hp' => by simpa using hq (j+1) p' (by simpa using hp')) (by
               have:=h.patch f.1 hc1
               rw [← Array.foldl_toList,Array.toList_zipIdx,aBD f.1 _ 0]
               exact this) hr
             refine ⟨us,?_,h4⟩
             have hlen:cs.length=vs.size:=by simpa using h.1
             obtain ⟨q1,q2⟩:=q
             simp only at hq2 h3 hcl
             subst hq2
             simp only [Instr.fill,hpl]
             have h5:q2.cells.size=i.size:=by rw [← hcl,← hsz]; exact h1
             have h6:f.1+q2.cells.size≤vs.size:=by rw [← hcl,← hlen]; exact h2
             rw [if_neg (by simp only [Bool.or_eq_true,decide_eq_true_eq]; omega)]
             simpa using h3
     · simp at hr
   · simp at hr
theorem aGA {α β:Type} (f:α→Option β):∀ (l:List α),(l.all fun x=>(f x).isSome)=true→∃ r,l.mapM f=some r
 | [],_=>⟨[],rfl⟩
 | x :: l,h=>by
   simp only [List.all_cons,Bool.and_eq_true] at h
   obtain ⟨y,hy⟩:=Option.isSome_iff_exists.1 h.1
   obtain ⟨r,hr⟩:=aGA f l h.2
   exact ⟨y :: r,by simp [List.mapM_cons,hy,hr]⟩
theorem aGB {t:TypeId} {i:TypeInfo} (hi:P.info? t=some i) {cs:List AV} (hz:(aY P t).zero=some cs):∃ z,i.zero=some z∧CellsR c w cs z.cells.toList:=by
 have one:∀ v:Value,CellsR c w [jB 3 v] [v]:=fun v=>⟨rfl,fun j x hx=>by
  cases j with
  | zero=>simp only [List.getElem?_cons_zero,Option.some.injEq] at hx; subst hx; exact uB c w 3 v
  | succ j=>simp at hx⟩
 simp only [aY,hi,Option.bind_some] at hz
 cases h:i.zero with
 | none=>rw [h] at hz; simp at hz
 | some v =>
   refine ⟨v,rfl,?_⟩
   rw [h] at hz
   cases v with
   | agg vs =>
     simp only [Option.some.injEq] at hz
     subst hz
     refine ⟨by simp [Value.cells],fun j x hx=>?_⟩
     rw [List.getElem?_map,Option.map_eq_some_iff] at hx
     obtain ⟨u,hu,rfl⟩:=hx
     have hu' : vs[j]? = some u:=by simpa using hu
     rw [List.getD_eq_getElem?_getD]
     simp only [Value.cells,Array.getElem?_toList,hu', Option.getD_some]
     exact uB c w 3 u
   | _ =>
     simp only [Option.some.injEq] at hz
     subst hz
     exact one _
theorem aGC (h:EnvR c w env a.tmps) (hT:bC P T) {t:TypeId} {parts:Array (Nat × Operand)} (ho:o.op = .build t parts):PureSpec P c w H o a (mJ T H t (d9 env parts)):=by
 have key:∀ {i:TypeInfo} {fs:List (Nat × TypeId)} {place:Nat→Option (Nat × Nat)},P.info? t=some i→(∀ (j:Nat) f,fs[j]? = some f→∃ i,P.info? f.2=some i∧place j=some (f.1,i.size)) →
  (∀ zv us,i.zero=some zv→Instr.fill place zv.cells (parts.map fun (i,x)=>(i,a.eval x)).toList=some us→P.built t (parts.map fun (i,x)=>(i,a.eval x)).toList=some us)→PureSpec P c w H o a (jH T H (aY P t) fs (d9 env parts)):=by
  intro i fs place hi hpl hbt
  unfold jH
  split
  · rename_i z hz
    split
    · rename_i cs hcs
      intro _
      obtain ⟨zv,hzv,hzr⟩:=aGB (c:=c) (w:=w) hi hz
      obtain ⟨us,h1,h2⟩:=aF9 hT hpl (d9 env parts) (parts.map fun (i,x)=>(i,a.eval x)).toList z cs zv.cells (by simp [d9]) (fun j p hp=>by
       simp only [d9,List.getElem?_map,Option.map_eq_some_iff] at hp
       obtain ⟨q,hq,rfl⟩:=hp
       have hq' : parts[j]? = some q:=by simpa using hq
       exact ⟨(q.1,a.eval q.2),by simp [hq'],rfl,bN h q.2⟩) hzr hcs
      refine ⟨rfl, .agg us,?_,h2.agg⟩
      simp only [execOp,ho,run_build w t _ us (hbt zv us hzv h1),Sem.run_bind,Result.andThen_ok,Sem.run_pure]
    · trivial
  · trivial
 unfold mJ
 split
 · rename_i x hx
   have hx' := lA hT hx
   subst hx'
   cases hf:(aY P t).fok with
   | true =>
     simp only [cond_true]
     simp only [aY] at hf
     cases hu:P.underlying t with
     | none=>rw [hu] at hf; simp at hf
     | some d =>
       rw [hu] at hf
       cases d with
       | struct fs =>
         simp only at hf
         cases hi:P.info? t with
         | none =>
           have hz:(aY P t).zero=none:=by simp [aY,hi]
           unfold jH
           rw [hz]
           trivial
         | some i =>
           obtain ⟨places,hp⟩:=aGA (fun f:Field=>(P.info? f.type).map fun i=>(f.offset,i.size)) fs.toList (by
            rw [List.all_eq_true] at hf ⊢
            intro f hfm
            have:=hf f hfm
            simpa using this)
           have hfe:(aY P t).fields=fs.toList.map fun f=>(f.offset,f.type):=by simp [aY,hu]
           rw [hfe]
           refine key (place:=(places.toArray[·]?)) hi (fun j f hj=>?_) (fun zv us hzv h1=>?_)
           · rw [List.getElem?_map,Option.map_eq_some_iff] at hj
             obtain ⟨fl,hfl,rfl⟩:=hj
             obtain ⟨y,hy1,hy2⟩:=aF8 _ _ _ hp _ _ hfl
             rw [Option.map_eq_some_iff] at hy1
             obtain ⟨i', hi', rfl⟩:=hy1
             exact ⟨i', hi', by simpa using hy2⟩
           · simp only [Program.built,hi,hu,hzv,hp]
             exact h1
       | _=>simp at hf
   | false =>
     simp only [cond_false]
     cases hf2:(aY P t).aok with
     | false=>trivial
     | true =>
       simp only [cond_true]
       simp only [aY] at hf2
       cases hu:P.underlying t with
       | none=>rw [hu] at hf2; simp at hf2
       | some d =>
         rw [hu] at hf2
         cases d with
         | array n e =>
           simp only [Bool.and_eq_true,decide_eq_true_eq] at hf2
           obtain ⟨ie,hie⟩:=Option.isSome_iff_exists.1 hf2.2
           cases hi:P.info? t with
           | none =>
             have hz:(aY P t).zero=none:=by simp [aY,hi]
             unfold jH
             rw [hz]
             trivial
           | some i =>
             have hfe:(aY P t).elts=(List.range n).map fun i=>(i * ie.size,e):=by simp [aY,hu,hf2.1,Program.cellsOf,hie]
             rw [hfe]
             refine key (place:=fun i=>some (i * ie.size,ie.size)) hi (fun j f hj=>?_) (fun zv us hzv h1=>?_)
             · rw [List.getElem?_map,Option.map_eq_some_iff] at hj
               obtain ⟨k,hk,rfl⟩:=hj
               have:k=j:=by
                 by_cases hjn:j<n
                 · rw [List.getElem?_range hjn] at hk; exact (Option.some.inj hk).symm
                 · rw [List.getElem?_eq_none (by simp; omega)] at hk; simp at hk
               subst this
               exact ⟨ie,hie,rfl⟩
             · simp only [Program.built,hi,hu,hzv,hie]
               exact h1
         | _=>simp at hf2
 · trivial
end
end
section
def RowV (S:Nat→Prop) (w:World) (e:ETy) (l:List e.D) (v:Value):Prop:=∃ A cap,v = .slice A l.length cap∧l.length≤cap∧(0<l.length→∃ g o,A=some ⟨g,o,none⟩ ∧
 ∀ (i:Nat) (x:e.D),l[i]? = some x→∃ vs,ElemR S w e x vs∧∀ (j:Nat) (u:Value),vs[j]? = some u→w.cell? ⟨g,o+i * e.size+j,none⟩=some u)
theorem iT {e e' : ETy} {l:List e'.D} {r:List e.D} (h:fL e e' l=some r):∃ he:e' = e,r=he ▸ l:=by
 unfold fL at h
 split at h
 · rename_i hb
   exact ⟨ETy.eq_of_beq hb,(Option.some.inj h).symm⟩
 · simp at h
section
variable {P:Program} {T:Tab} {n0:Nat} {c:Ctx} {H:List aA} {w:World} {env:Env} {a:Act} {o:Oper}
theorem aGD (hH:HR n0 c H w) {id:Nat} {e:ETy} {xs:List e.D} {fz:Bool} (ho:aF H id = .typed e xs fz):RowV c.S w e xs (c.m id):=by
 have:=hH.obj id (cU (by rw [ho]; simp))
 rw [ho] at this
 obtain ⟨hz,⟨Ty,cells,hown,hrow⟩,_⟩:=this
 obtain ⟨A,cap,h1,h2,_,h3⟩:=gW hH ho
 refine ⟨A,cap,h1,h2,fun hp=>?_⟩
 obtain ⟨g,rfl⟩:=h3 hp
 refine ⟨g,0,rfl,fun i x hx=>?_⟩
 obtain ⟨vs,hvs,hc⟩:=hrow i x hx
 refine ⟨vs,hvs,fun j u hu=>?_⟩
 have:=hown.cells (g:=g) (by rw [h1]; rfl) _ _ (hc j u hu)
 rw [fW] at this
 rw [show 0+i * e.size+j=0+(i * e.size+j) by omega]
 exact this
theorem aBE (hH:HR n0 c H w) {x:AV} {v:Value} (hx:AVR c w x v) {e:ETy} {l:List e.D} (hl:fS H e x=some l):RowV c.S w e l v:=by
 cases x <;> simp only [fS] at hl <;> try (simp at hl; done)
 · rename_i e' l'
   obtain ⟨he,hr⟩:=iT hl
   subst he
   subst hr
   cases hx with
   | imm hc =>
     simp only [CellR] at hc
     obtain ⟨A,cap,hv,hle,hcell⟩:=hc
     refine ⟨A,cap,hv,hle,fun hp=>?_⟩
     obtain ⟨g,o,ha,hg,hi⟩:=hcell hp
     exact ⟨g,o,ha,hi⟩
 · rename_i id
   split at hl
   · rename_i e' xs fz ho
     obtain ⟨he,hr⟩:=iT hl
     subst he
     subst hr
     cases hx with
     | own hb hm=>rw [← hm]; exact aGD hH ho
   · simp at hl
 · rename_i id off len
   split at hl
   · rename_i e' xs fz ho
     rw [Option.map_eq_some_iff] at hl
     obtain ⟨r', hr', hl⟩:=hl
     obtain ⟨he,hr⟩:=iT hr'
     subst he
     subst hr
     subst hl
     cases hx with
     | win hb hm h1 h2 h3 =>
       obtain ⟨A,cap,h4,h5,hrow⟩:=aGD hH ho
       obtain ⟨_,_,_,_,hz,_⟩:=gW hH ho
       rw [h4] at hm
       simp only [Value.slice.injEq] at hm
       obtain ⟨rfl,rfl,rfl⟩:=hm
       have hlen:((r'.drop off).take len).length=len:=by simp; omega
       refine ⟨_,_,by rw [hlen],by rw [hlen]; exact h2,fun hp=>?_⟩
       rw [hlen] at hp
       obtain ⟨g,hA,rfl⟩:=h3 hp
       subst hA
       obtain ⟨g', o', ha,hi⟩:=hrow (by omega)
       simp only [Option.some.injEq,Addr.mk.injEq,and_true] at ha
       obtain ⟨rfl,rfl⟩:=ha
       refine ⟨g,_,rfl,fun i y hy=>?_⟩
       rw [List.getElem?_take] at hy
       split at hy
       · rw [List.getElem?_drop] at hy
         obtain ⟨vs,hvs,hc⟩:=hi _ y hy
         refine ⟨vs,hvs,fun j u hu=>?_⟩
         have:=hc j u hu
         rw [hz,show off * e'.size+i * e'.size+j=0+(off+i) * e'.size+j by rw [Nat.add_mul]; omega]
         exact this
       · simp at hy
   · simp at hl
 · cases hx
   simp only [Option.some.injEq] at hl
   subst hl
   exact ⟨none,0,rfl,Nat.le_refl _,fun hp=>by simp at hp⟩
 · rename_i v'
   cases hb:tH v' with
   | false=>rw [hb] at hl; simp at hl
   | true =>
     rw [hb] at hl
     simp only [cond_true,Option.some.injEq] at hl
     subst hl
     cases hx
     unfold tH at hb
     split at hb
     · exact ⟨_,_,rfl,Nat.zero_le _,fun hp=>absurd hp (Nat.lt_irrefl _)⟩
     · cases hb
theorem aGE : ∀ (l:List Int) (r:ByteArray),l.foldl (fun r n=>r.push (UInt8.ofNat n.toNat)) r=⟨r.data ++ (l.map fun n=>UInt8.ofNat n.toNat).toArray⟩
 | [],r=>by simp
 | b :: l,r=>by
   simp only [List.map_cons,List.foldl_cons]
   rw [aGE l]
   simp [ByteArray.push]
theorem aRM (A:Option Addr) (cap:Nat) (l:List Int) (h:0<l.length→∃ g o', A=some ⟨g,o', none⟩∧∀ (i:Nat) (n:Int),l[i]? = some n→w.cell? ⟨g,o' + i,none⟩=some (.int .u8 n)) :
 (Conv.bytesToString (.slice A l.length cap)).run P w = .ok (.string (pO l)) w:=by
 have fin:∀ ad:Addr,(loadCells ad l.length).run P w = .ok (l.map (Value.int .u8)).toArray w→(Conv.bytesToString (.slice (some ad) l.length cap)).run P w = .ok (.string (pO l)) w:=by
  intro ad hl
  rw [run_bytesToString w ad l.length cap l hl,aGE]
  simp [pO,ByteArray.empty,ByteArray.emptyWithCapacity]
  try rfl
 by_cases hp:0<l.length
 · obtain ⟨g,o', rfl,hi⟩:=h hp
   refine fin _ ?_
   have hl' := run_loadCells_list (P:=P) w ⟨g,o', none⟩ (l.map (Value.int .u8)) (fun j v hj=>by
    rw [List.getElem?_map,Option.map_eq_some_iff] at hj
    obtain ⟨n,hn,rfl⟩:=hj
    rw [fW]
    exact hi j n hn)
   simpa using hl'
 · have h0:l=[]:=List.eq_nil_of_length_eq_zero (by omega)
   subst h0
   cases A with
   | none =>
     simp [Conv.bytesToString,Sem.run_pure,pO,ByteArray.empty,ByteArray.emptyWithCapacity]
     try rfl
   | some ad =>
     refine fin ad ?_
     have:=run_loadCells_list (P:=P) w ad [] (fun j v hj=>by simp at hj)
     simpa using this
theorem aRN (s:ByteArray) (i:Nat) (n:Int) (h:(mD s)[i]? = some n):∃ b,s.data[i]? = some b∧i<s.size∧n=(b.toNat:Int):=by
 unfold mD at h
 rw [List.getElem?_map,Option.map_eq_some_iff] at h
 obtain ⟨b,hb,rfl⟩:=h
 have hi:i<s.size:=by
  have:=(List.getElem?_eq_some_iff.1 hb).1
  simpa using this
 exact ⟨b,by simpa using hb,hi,rfl⟩
theorem aRO {t:TypeId} (h:(aY P t).okay=true):∃ d,P.underlying t=some d:=by
 have:(P.underlying t).isSome=true∧(P.info? t).isSome=true:=by simpa [aY] using h
 exact Option.isSome_iff_exists.1 this.1
theorem aGF (hT:bC P T) {t:TypeId} (h:T.kind t = .bytes):∃ e,P.underlying t=some (.slice e)∧P.underlying e=some (.int .u8):=by
 unfold Tab.kind at h
 split at h
 · rename_i x hx
   rw [hT.ty _ _ hx] at h
   unfold aY at h
   dsimp only at h
   split at h <;> first
    | (rename_i e he
       split at h
       · exact ⟨e,he,by assumption⟩
       · simp at h)
    | simp at h
 · simp at h
def Ctx.stab (c:Ctx) (g:Nat):Ctx:=⟨c.n,c.m,c.z,fun x=>c.S x∨x=g,c.S0⟩
theorem Ctx.stab_le (c:Ctx) (g:Nat):Ctx.le c (c.stab g):=⟨Nat.le_refl _,fun _ _=>rfl,fun _ _=>rfl,fun _ h => .inl h,rfl⟩
theorem Mem.stab' {w' : World} (h:Mem n0 c H w) (hold:∀ g,g<w.heap.size→w'.heap[g]? = w.heap[g]?) (hs:w.heap.size<w'.heap.size):Mem n0 (c.stab w.heap.size) H w' := by
 have hlen:=h.obj.len
 refine ⟨⟨hlen,fun id hid=>?_,h.obj.dist⟩,by have:=h.base; omega,fun g hg=>?_,fun g hg hlt=>?_⟩
 · by_cases hal:aV (aF H id)=true
   · refine (h.obj.obj id hid).mono (Ctx.stab_le c _) (by omega) (fun g hg hS=>?_) (fun g hg=>hold g (h.stab g hg)) (fun g hg=>hold g (h.obj.lt id g hid hal hg))
     rcases hS with hS | rfl
     · exact hS
     · have:=h.obj.lt id _ hid hal hg; omega
   · cases ho:aF H id with
     | dead=>trivial
     | typed e xs fz=>rw [ho] at hal; simp [aV] at hal
     | box cs=>rw [ho] at hal; simp [aV] at hal
 · rcases hg with hg | rfl
   · have:=h.stab g hg; omega
   · exact hs
 · rcases hg with hg | rfl
   · exact h.old g hg hlt
   · have:=h.base; omega
theorem Pure1.mem (hM:Mem n0 c H w) {x:AV} (h:Pure1 P c w o a x):MemSpec P n0 c w o a x H:=by
 obtain ⟨v,h1,h2⟩:=h
 exact ⟨v,w,c,h1,Ctx.le_refl c,h2,hM,RowKit.Below.refl n0 w,fun _ _=>rfl⟩
def dX (P:Program) (n0:Nat) (c:Ctx) (w:World) (o:Oper) (a:Act) (r:OpR):Prop:=match r with
 | .fail=>True
 | .ok g x H' => g=true→MemSpec P n0 c w o a x H'
 | .call _ _=>False
theorem PureSpec.spec (hM:Mem n0 c H w) {r:OpR} (h:PureSpec P c w H o a r):dX P n0 c w o a r:=by
 cases r with
 | fail=>trivial
 | ok g x H' =>
   intro hg
   obtain ⟨rfl,h1⟩:=h hg
   exact h1.mem hM
 | call f args=>exact h.elim
theorem aRP {src dst:TypeId} {x:Operand} (ho:o.op = .convert src dst x) {v:Value} {w' : World} (h:(convert src dst (a.eval x)).run P w = .ok v w'):(execOp a.eval o).run P w = .ok (.value v) w' := by
 simp only [execOp,ho,Sem.run_bind,h,Result.andThen_ok,Sem.run_pure]
theorem aGG (hM:Mem n0 c H w) (h:EnvR c w env a.tmps) (hT:bC P T) {src dst:TypeId} {x:Operand} (ho:o.op = .convert src dst x):dX P n0 c w o a (gU T H src dst (aD env x)):=by
 have hx:=bN h x
 have hrun:=fun v w' (hh:(convert src dst (a.eval x)).run P w = .ok v w')=>aRP (o:=o) (a:=a) (w:=w) ho hh
 generalize a.eval x=vx at *
 generalize aD env x=X at *
 unfold gU
 split
 · rename_i y hy
   have hy' := lA hT hy
   subst hy'
   cases hok:(aY P src).okay with
   | false=>trivial
   | true =>
     obtain ⟨ds,hds⟩:=aRO hok
     simp only [cond_true]
     unfold pT
     split
     · rename_i k hk
       have hkd:=aRB hT hk
       split
       · rename_i k' n
         obtain rfl:=eA hx
         intro _
         refine Pure1.mem hM ⟨_,hrun _ _ ?_, .int _ _⟩
         cases ds <;> simp [convert,run_underlying hds,run_underlying hkd,Conv.intToInt,Sem.run_bind,Sem.run_pure]
       · trivial
     · rename_i hk
       have hkd:=qI hT hk
       split
       · rename_i k' n
         obtain rfl:=eA hx
         intro _
         refine Pure1.mem hM ⟨_,hrun _ _ ?_, .str _⟩
         cases ds <;> simp [convert,run_underlying hds,run_underlying hkd,Conv.intToString,Sem.run_bind,Sem.run_pure]
       · rename_i s
         obtain rfl:=iE hx
         intro _
         refine Pure1.mem hM ⟨_,hrun _ _ ?_, .str _⟩
         cases ds <;> simp [convert,run_underlying hds,run_underlying hkd,Sem.run_bind,Sem.run_pure]
       · split
         · rename_i hks
           obtain ⟨e,he1,he2⟩:=aGF hT hks
           split
           · rename_i l hl
             intro _
             obtain ⟨A,cap,rfl,hle,hcell⟩:=aBE hM.obj hx hl
             refine Pure1.mem hM ⟨_,hrun _ _ ?_, .str _⟩
             rw [run_convert_bytes_string w src dst e A l.length cap he1 he2 hkd]
             exact aRM A cap l fun hp=>by
              obtain ⟨g,o', hA,hi⟩:=hcell hp
              refine ⟨g,o', hA,fun i n hn=>?_⟩
              obtain ⟨vs,hvs,hc⟩:=hi i n hn
              simp only [ElemR,CellR] at hvs
              obtain ⟨u,rfl,rfl⟩:=hvs
              have:=hc 0 _ rfl
              simpa [ETy.size] using this
           · trivial
         · trivial
     · rename_i hk
       obtain ⟨e,he1,he2⟩:=aGF hT hk
       split
       · rename_i s hks
         have hss:=qI hT hks
         obtain rfl:=iE hx
         intro _
         have hr:=run_bytes_of_string (P:=P) w src dst e s hss he1 he2
         have hcap:=grownCap_ge w s.size 0 e
         generalize grownCap w s.size 0 e=cap at hr hcap
         have hold:∀ (ob:Obj) (g:Nat),g<w.heap.size→(w.drew.alloc ob).heap[g]? = w.heap[g]? := fun ob g hg=>heap_alloc_old w.drew ob g hg
         refine ⟨_,_,c.stab w.heap.size,hrun _ _ hr,Ctx.stab_le c _, .imm ?_,hM.stab' (hold _) (by simp),?_,fun g hg=>hold _ g (hM.stab g hg)⟩
         · simp only [CellR]
           have hbl:(dE (e := .one (.int .u8)) (mD s)).length=s.size:=by show (mD s).length=_; simp [mD]
           refine ⟨_,_,by rw [hbl],by rw [hbl]; exact hcap,fun _=>⟨w.heap.size,0,rfl, .inr rfl,fun i x hx=>?_⟩⟩
           obtain ⟨b,hb', hi,hbx⟩:=aRN s i x hx
           refine ⟨[.int .u8 x],by simp only [ElemR,CellR]; exact ⟨_,rfl,rfl⟩,fun j u hu=>?_⟩
           cases j with
           | succ j=>simp at hu
           | zero =>
             simp only [List.getElem?_cons_zero,Option.some.injEq] at hu
             subst hu
             have hnew:(w.drew.alloc (.cells (bytesRow s cap) e ((bytesRow s cap).size,(bytesRow s cap).size+1))).heap[w.heap.size]? = some (.cells (bytesRow s cap) e ((bytesRow s cap).size,(bytesRow s cap).size+1)):=heap_alloc_new w.drew _
             rw [cell_of_row _ _ _ _ _ _ hnew]
             simp only [bytesRow,ETy.size,Nat.mul_one,Nat.zero_add,Nat.add_zero]
             rw [Array.getElem?_append_left (by simpa using hi),Array.getElem?_map]
             rw [hb', hbx]; rfl
         · exact (RowKit.Below.refl n0 w).drew.alloc (by have:=hM.base; simpa using this) _
       · trivial
     · trivial
 · trivial
end
end
section
theorem aGH {S:Nat→Prop} {w:World} {t:CTy} {v:Value} (h:iO t v=true):CellR S w t t.dflt v:=by
 cases t with
 | int k =>
   cases v <;> simp only [iO,Bool.and_eq_true,decide_eq_true_eq,Bool.false_eq_true] at h
   obtain ⟨rfl,rfl⟩:=h
   simp only [CellR,CTy.dflt]
 | bool =>
   cases v <;> simp only [iO,Bool.false_eq_true] at h
   rename_i b
   cases b
   · simp only [CellR,CTy.dflt]
   · simp at h
 | str =>
   cases v <;> simp only [iO,decide_eq_true_eq,Bool.false_eq_true] at h
   rename_i s
   have:s=ByteArray.empty:=by
    apply ByteArray.ext
    apply Array.ext
    · simpa using h
    · intro i h1 h2
      have:s.data.size=0:=by simpa using h
      omega
   subst this
   simp only [CellR,CTy.dflt]
 | slice e =>
   cases v <;> try (simp [iO] at h; done)
   rename_i A n c
   cases A with
   | some ad=>simp [iO] at h
   | none =>
     cases n with
     | succ n=>simp [iO] at h
     | zero =>
       cases c with
       | succ c=>simp [iO] at h
       | zero =>
         simp only [CellR,CTy.dflt]
         exact ⟨none,0,rfl,Nat.le_refl _,fun hp=>by simp [dE] at hp⟩
theorem aBF : ∀ {e:ETy} {l:List Value},fD e l=true→l.length=e.size
 | .one t,[],h=>by simp [fD] at h
 | .one t,[v],h=>rfl
 | .one t,_ :: _ :: _,h=>by simp [fD] at h
 | .more t e,[],h=>by simp [fD] at h
 | .more t e,v :: r,h=>by
   simp only [fD,Bool.and_eq_true] at h
   simp [ETy.size,aBF h.2]
theorem aBG {S:Nat→Prop} {w:World}:∀ {e:ETy} {l:List Value},fD e l=true→ElemR S w e e.dflt l
 | .one t,[],h=>by simp [fD] at h
 | .one t,[v],h=>by
   simp only [fD] at h
   simp only [ElemR,ETy.dflt]
   exact ⟨v,rfl,aGH h⟩
 | .one t,_ :: _ :: _,h=>by simp [fD] at h
 | .more t e,[],h=>by simp [fD] at h
 | .more t e,v :: r,h=>by
   simp only [fD,Bool.and_eq_true] at h
   simp only [ElemR,ETy.dflt]
   exact ⟨v,r,rfl,aGH h.1,aBG h.2⟩
theorem ElemR.one {S:Nat→Prop} {w:World}:∀ {e:ETy} {x:e.D} {vs:List Value},ElemR S w e x vs→∀ u∈vs,u.oneCell' = true
 | .one t,x,vs,h,u,hu=>by
   simp only [ElemR] at h
   obtain ⟨v,rfl,hv⟩:=h
   simp only [List.mem_singleton] at hu
   subst hu
   cases t <;> simp only [CellR] at hv
   · subst hv; rfl
   · subst hv; rfl
   · subst hv; rfl
   · obtain ⟨A,c,rfl,_⟩:=hv; rfl
 | .more t e,x,vs,h,u,hu=>by
   simp only [ElemR] at h
   obtain ⟨v,r,rfl,hv,hr⟩:=h
   rcases List.mem_cons.1 hu with rfl | hu
   · cases t <;> simp only [CellR] at hv
     · subst hv; rfl
     · subst hv; rfl
     · subst hv; rfl
     · obtain ⟨A,c,rfl,_⟩:=hv; rfl
   · exact ElemR.one hr u hu
section
variable {P:Program} {T:Tab} {n0:Nat} {c:Ctx} {H:List aA} {w:World} {env:Env} {a:Act} {o:Oper}
theorem aBH (hT:bC P T) {t:TypeId} {p:ETy × Nat} (h:T.row t=some p):∃ (et:TypeId) (i:TypeInfo) (z:Value),P.underlying t=some (.slice et)∧P.info? et=some i∧i.zero=some z∧i.size=p.1.size∧z.cells.size=p.1.size ∧
 fD p.1 z.cells.toList=true∧p.2=i.bytes:=by
 unfold Tab.row at h
 split at h
 · rename_i x hx
   have hx' := lA hT hx
   subst hx'
   unfold aFB at h
   cases hz:(aY P t).ezok with
   | false=>rw [hz] at h; simp at h
   | true =>
     rw [hz] at h
     simp only [cond_true] at h
     split at h
     · rename_i e he
       simp only [Option.some.injEq] at h
       subst h
       cases hu:P.underlying t with
       | none=>simp [aY,hu] at he
       | some d =>
         cases d with
         | slice et =>
           simp only [aY,hu] at he hz
           unfold aAH at hz
           rw [he] at hz
           cases hi:P.info? et with
           | none=>rw [hi] at hz; simp at hz
           | some i =>
             rw [hi] at hz
             simp only at hz
             split at hz
             · rename_i z hzz
               simp only [Bool.and_eq_true,decide_eq_true_eq] at hz
               have hl:=aBF hz.1
               simp only [Array.length_toList] at hl
               refine ⟨et,i,z,rfl,hi,hzz,hz.2.symm.trans hl,hl,hz.1,?_⟩
               simp [aY,hu,Program.bytesOf,hi]
             · simp at hz
         | _=>simp [aY,hu] at he
     · simp at h
 · simp at h
theorem aRQ {S:Nat→Prop} {w' : World} {e:ETy} {z:Array Value} (hz:fD e z.toList=true) (hs:z.size=e.size) (n m:Nat) (hnm:n≤m):RowR S w' e (List.replicate n e.dflt) (madeCells z (m * e.size)).toList:=by
 intro i x hx
 rw [List.getElem?_replicate] at hx
 split at hx
 · rename_i hi
   simp only [Option.some.injEq] at hx
   subst hx
   refine ⟨z.toList,aBG hz,fun j u hu=>?_⟩
   have hj:j<z.size:=by
    have:=(List.getElem?_eq_some_iff.1 hu).1
    simpa using this
   have hlt:i * e.size+j<m * e.size:=by
    have:(i+1) * e.size≤m * e.size:=Nat.mul_le_mul_right _ (by omega)
    rw [Nat.add_mul] at this
    omega
   simp only [madeCells,Array.toList_map,List.getElem?_map,Array.toList_range,List.getElem?_range hlt,Option.map_some,Option.some.injEq]
   have hm:(i * e.size+j) % z.size=j:=by
    rw [hs,Nat.mul_comm,Nat.mul_add_mod]
    exact Nat.mod_eq_of_lt (by omega)
   rw [hm]
   have hu' : z[j]? = some u:=by simpa using hu
   rw [getElem!_def,hu']
 · simp at hx
theorem uE (hM:Mem n0 c H w) {w' : World} {e:ETy} {xs:List e.D} {Ty:TypeId} {v:Value} {cells:List Value} (hold:∀ g,g<w.heap.size→w'.heap[g]? = w.heap[g]?) (hsz:w.heap.size≤w'.heap.size)
 (hnew:∀ g,blk v=some g→w.heap.size≤g) (hown:w'.ownsRow n0 Ty e.size v xs.length cells) (hrow:RowR c.S w' e xs cells) :
 Mem n0 (c.more v e.size c.S) (H ++ [.typed e xs false]) w' := by
 refine ⟨hM.obj.push hold hM.stab (fun id g hid hal hb=>hM.obj.lt id g hid hal hb) hnew ?_,by have:=hM.base; omega,fun g hg=>by have:=hM.stab g hg; omega,fun g hg hl=>hM.old g hg hl⟩
 have hv:(c.more v e.size c.S).m c.n=v:=by simp [Ctx.more]
 refine ⟨by simp [Ctx.more],⟨Ty,cells,by rw [hv]; exact hown,hrow⟩,fun g hg=>⟨fun h=>by simp at h,fun _ hS=>?_⟩⟩
 rw [hv] at hg
 have:=hnew g hg
 have:=hM.stab g hS
 omega
theorem qM (hM:Mem n0 c H w) {v:Value} {z n k:Nat} {A:Option Addr} {w' : World} (hv:v = .slice A n k):AVR (c.more v z c.S) w' (.own H.length) v:=by
 have hl:=hM.obj.len
 rw [hv]
 refine .own (by simp [Ctx.more,hl]) ?_
 rw [← hl]
 simp [Ctx.more]
theorem aRR {n b:Nat} (h:fits n b=true):n≤maxLen∧n * b≤140737488355328:=by
 unfold fits at h
 cases hb:Nat.ble n 9223372036854775807 with
 | false=>rw [hb] at h; simp at h
 | true =>
   rw [hb] at h
   exact ⟨by simpa [maxLen] using (eH _ _).1 hb,(eH _ _).1 h⟩
theorem aRS {n b:Nat} (h:aAM n b=true):n≤maxLen∧n * b≤281474976710656:=by
 unfold aAM at h
 cases hb:Nat.ble n 9223372036854775807 with
 | false=>rw [hb] at h; simp at h
 | true =>
   rw [hb] at h
   exact ⟨by simpa [maxLen] using (eH _ _).1 hb,(eH _ _).1 h⟩
theorem aGI (hM:Mem n0 c H w) (h:EnvR c w env a.tmps) (hT:bC P T) {t:TypeId} {x y:Operand} (ho:o.op = .makeSlice t x y):dX P n0 c w o a (pX T H t (aD env x) (aD env y)):=by
 have hx:=bN h x
 have hy:=bN h y
 have hrun:∀ (v:Value) (w' : World),(Instr.makeSlice t (a.eval x) (a.eval y)).run P w = .ok v w' → (execOp a.eval o).run P w = .ok (.value v) w' := by
  intro v w' hh
  simp only [execOp,ho,Sem.run_bind,hh,Result.andThen_ok,Sem.run_pure]
 generalize a.eval x=vx at *
 generalize a.eval y=vy at *
 generalize aD env x=X at *
 generalize aD env y=Y at *
 unfold pX
 split
 · rename_i p hp
   obtain ⟨et,i,z,h1,h2,h3,h4,h5,h6,h7⟩:=aBH hT hp
   unfold aAV
   split
   · rename_i k n
     split
     · rename_i k' m
       obtain rfl:=eA hx
       obtain rfl:=eA hy
       intro hg
       simp only [Bool.and_eq_true,decide_eq_true_eq] at hg
       obtain ⟨hf1,hf2⟩:=aRS hg.2
       have hmm:((m.toNat:Nat):Int)=m:=Int.toNat_of_nonneg (by omega)
       have hr:=run_make (P:=P) w t et i z h1 h2 h3 k k' n m hg.1.1 hg.1.2 (by
        rw [← h7]
        have:((m.toNat * p.2:Nat):Int)≤281474976710656:=by omega
        rw [Int.natCast_mul,hmm,Int.mul_comm] at this
        omega) (by simp only [maxLen] at hf1; omega)
       rw [h4] at hr
       have hold:∀ g,g<w.heap.size→(w.alloc (.cells (madeCells z.cells (m.toNat * p.1.size)) et)).heap[g]? = w.heap[g]? := fun g hg=>heap_alloc_old w _ g hg
       refine ⟨_,_,c.more (.slice (some ⟨w.heap.size,0,none⟩) n.toNat m.toNat) p.1.size c.S,hrun _ _ hr,Ctx.more_le c _ _ (fun _ h=>h),qM hM rfl,?_,(RowKit.Below.refl n0 w).alloc hM.base _,fun g hg=>hold g (hM.stab g hg)⟩
       refine uE hM (Ty:=et) (cells:=(madeCells z.cells (m.toNat * p.1.size)).toList.take (n.toNat * p.1.size)) hold (by simp) (fun g hg=>by simp [blk] at hg; omega) ?_ ?_
       · have hle:n.toNat * p.1.size≤m.toNat * p.1.size:=Nat.mul_le_mul_right _ (by omega)
         refine ⟨?_, .inr ⟨w.heap.size,m.toNat,_,by simp,hM.base,heap_alloc_new w _,by simp; omega,hf1,size_madeCells _ _,by simp⟩⟩
         rw [List.length_take,Array.length_toList,size_madeCells,List.length_replicate]
         omega
       · intro j q hq
         obtain ⟨vs,hv1,hv2⟩:=aRQ (S:=c.S) (w' := w.alloc (.cells (madeCells z.cells (m.toNat * p.1.size)) et)) h6 h5 n.toNat m.toNat (by omega) j q hq
         refine ⟨vs,hv1,fun k' u hu=>?_⟩
         have hj:j<n.toNat:=by
          have:=(List.getElem?_eq_some_iff.1 hq).1
          simpa using this
         have hk:k' < p.1.size:=by
          have:=(List.getElem?_eq_some_iff.1 hu).1
          rw [hv1.length] at this
          exact this
         have:(j+1) * p.1.size≤n.toNat * p.1.size:=Nat.mul_le_mul_right _ (by omega)
         rw [Nat.add_mul] at this
         rw [List.getElem?_take,if_pos (by omega)]
         exact hv2 k' u hu
     · trivial
   · trivial
 · trivial
end
end
section
theorem jJ {α:Type} (l:List α) (i:Nat) (v:α):(c7 l i v).length=l.length:=by rw [qK]; simp
theorem eJ (H:List aA) (id:Nat) (o:aA) (k:Nat):aF (c7 H id o) k=if k=id∧k<H.length then o else aF H k:=by
 rw [fF,fF,qK,List.getElem?_set]
 by_cases h:id=k
 · subst h
   by_cases hl:id<H.length
   · simp [hl]
   · simp [hl]
 · simp [h,Ne.symm h]
theorem uF (H:List aA) (id:Nat):(freeze1 H id).length=H.length:=by
 unfold freeze1
 split <;> simp [jJ]
theorem aBI : ∀ (l:List Nat) (H:List aA),(freezeAt H l).length=H.length
 | [],_=>rfl
 | id :: l,H=>by
   show (freezeAt (freeze1 H id) l).length=_
   rw [aBI l,uF]
theorem nB (H:List aA) (id k:Nat) (h:k≠id):aF (freeze1 H id) k=aF H k:=by
 unfold freeze1
 split
 · rw [eJ,if_neg (fun h' => h h'.1)]
 · rfl
theorem aBJ : ∀ (l:List Nat) (H:List aA) (k:Nat),k ∉ l→aF (freezeAt H l) k=aF H k
 | [],_,_,_=>rfl
 | id :: l,H,k,h=>by
   simp only [List.mem_cons,not_or] at h
   show aF (freezeAt (freeze1 H id) l) k=_
   rw [aBJ l _ k h.2,nB H id k h.1]
def eU : aA→Bool
 | .typed _ _ _=>true
 | _=>false
theorem aRT (H:List aA) (id k:Nat):eU (aF (freeze1 H id) k)=eU (aF H k):=by
 by_cases h:k=id
 · subst h
   unfold freeze1
   split
   · rename_i e xs fz ho
     rw [eJ]
     split
     · rw [ho]; rfl
     · rfl
   · rfl
 · rw [nB H id k h]
section
variable {P:Program} {T:Tab} {n0:Nat} {c:Ctx} {H:List aA} {w:World} {env:Env} {a:Act} {o:Oper}
def Ctx.withS (c:Ctx) (S:Nat→Prop):Ctx:=⟨c.n,c.m,c.z,S,c.S0⟩
theorem Ctx.withS_le (c:Ctx) {S:Nat→Prop} (h:∀ g,c.S g→S g):Ctx.le c (c.withS S):=⟨Nat.le_refl _,fun _ _=>rfl,fun _ _=>rfl,h,rfl⟩
theorem lB {ob:aA} (h:eU ob=true):aV ob=true:=by cases ob <;> simp_all [eU,aV]
theorem Mem.freeze1 (hM:Mem n0 c H w) (id:Nat):Mem n0 (c.withS fun g=>c.S g∨(eU (aF H id)=true∧blk (c.m id)=some g)) (Mach.freeze1 H id) w:=by
 have hlen:=hM.obj.len
 have hlt:∀ k,aV (aF H k)=true→k<H.length:=fun k hk=>cU (fun h=>by rw [h] at hk; simp [aV] at hk)
 refine ⟨⟨by rw [uF]; exact hlen,fun k hk=>?_,fun i j g hi hj hne ai aj bi=>?_⟩,hM.base,fun g hg=>?_,fun g hg hgl=>?_⟩
 · rw [uF] at hk
   have hob:=hM.obj.obj k hk
   by_cases hki:k=id
   · subst hki
     unfold Mach.freeze1
     cases ho:aF H k with
     | typed e xs fz =>
       rw [ho] at hob
       simp only
       rw [eJ,if_pos ⟨rfl,hk⟩]
       obtain ⟨hz,⟨Ty,cells,hown,hrow⟩,_⟩:=hob
       refine ⟨hz,⟨Ty,cells,hown,fun i x hx=>?_⟩,fun g hg=>⟨fun _ => .inr ⟨rfl,hg⟩,fun h=>by simp at h⟩⟩
       obtain ⟨vs,h1,h2⟩:=hrow i x hx
       exact ⟨vs,ElemR.mono (fun _ h => .inl h) (fun _ _=>rfl) h1,h2⟩
     | box cs =>
       simp only
       rw [ho]
       rw [ho] at hob
       exact hob.mono (Ctx.withS_le c fun _ h => .inl h) (by omega) (fun g _ hS=>hS.elim id (fun h=>by simp [eU] at h)) (fun _ _=>rfl) (fun _ _=>rfl)
     | dead=>simp only; rw [ho]; trivial
   · rw [nB H id k hki]
     by_cases hal:aV (aF H k)=true
     · refine hob.mono (Ctx.withS_le c fun _ h => .inl h) (by omega) (fun g hg hS=>?_) (fun _ _=>rfl) (fun _ _=>rfl)
       rcases hS with hS | ⟨h1,h2⟩
       · exact hS
       · exact absurd hg (hM.obj.dist id k g (hlt id (lB h1)) hk (Ne.symm hki) (lB h1) hal h2)
     · cases ho:aF H k with
       | dead=>trivial
       | typed e xs fz=>rw [ho] at hal; simp [aV] at hal
       | box cs=>rw [ho] at hal; simp [aV] at hal
 · rw [uF] at hi hj
   have key:∀ k,aV (aF (Mach.freeze1 H id) k)=true→aV (aF H k)=true:=by
    intro k hk
    by_cases hki:k=id
    · subst hki
      unfold Mach.freeze1 at hk
      split at hk
      · rename_i ho; rw [ho]; rfl
      · exact hk
    · rwa [nB H id k hki] at hk
   exact hM.obj.dist i j g hi hj hne (key i ai) (key j aj) bi
 · rcases hg with hg | ⟨h1,h2⟩
   · exact hM.stab g hg
   · exact hM.obj.lt id g (hlt id (lB h1)) (lB h1) h2
 · rcases hg with hg | ⟨h1,h2⟩
   · exact hM.old g hg hgl
   · have:=hM.obj.base' (hlt id (lB h1)) (lB h1) h2
     omega
theorem Mem.freezeAt (l:List Nat):∀ {c:Ctx} {H:List aA},Mem n0 c H w→∃ S:Nat→Prop,(∀ g,c.S g→S g)∧Mem n0 (c.withS S) (Mach.freezeAt H l) w∧∀ id∈l,eU (aF H id)=true→∀ g,blk (c.m id)=some g→S g:=by
 induction l with
 | nil=>intro c H hM; exact ⟨c.S,fun _ h=>h,hM,fun id h=>by cases h⟩
 | cons id l ih =>
   intro c H hM
   obtain ⟨S,h1,h2,h3⟩:=ih (hM.freeze1 id)
   refine ⟨S,fun g hg=>h1 g (.inl hg),h2,fun k hk ha g hg=>?_⟩
   rcases List.mem_cons.1 hk with rfl | hk
   · exact h1 g (.inr ⟨ha,hg⟩)
   · exact h3 k hk (by rw [aRT]; exact ha) g hg
theorem uG (hH:HR n0 c H w) {x:AV} {v:Value} (hx:AVR c w x v) {e:ETy} {l:List e.D} (hl:fS H e x=some l) {S:Nat→Prop} (hS:∀ g,c.S g→S g)
 (hs:∀ id∈fC x,eU (aF H id)=true→∀ g,blk (c.m id)=some g→S g):CellR S w (.slice e) l v:=by
 have key:RowV S w e l v:=by
  obtain ⟨A,cap,h1,h2,h3⟩:=aBE hH hx hl
  refine ⟨A,cap,h1,h2,fun hp=>?_⟩
  obtain ⟨g,o,ha,hi⟩:=h3 hp
  refine ⟨g,o,ha,fun i y hy=>?_⟩
  obtain ⟨vs,hv1,hv2⟩:=hi i y hy
  exact ⟨vs,ElemR.mono hS (fun _ _=>rfl) hv1,hv2⟩
 obtain ⟨A,cap,rfl,h2,h3⟩:=key
 simp only [CellR]
 refine ⟨A,cap,rfl,h2,fun hp=>?_⟩
 obtain ⟨g,o,rfl,hi⟩:=h3 hp
 refine ⟨g,o,rfl,?_,hi⟩
 have hp' : 0<l.length:=hp
 cases x <;> simp only [fS] at hl <;> try (simp at hl; done)
 · cases hx with
   | imm hc =>
     rename_i e' l'
     obtain ⟨he,hr⟩:=iT hl
     subst he
     subst hr
     simp only [CellR] at hc
     obtain ⟨A,cap', hv,hle,hcell⟩:=hc
     obtain ⟨g', o', ha,hg,_⟩:=hcell hp
     simp only [Value.slice.injEq] at hv
     rw [← hv.1] at ha
     simp only [Option.some.injEq,Addr.mk.injEq,and_true] at ha
     rw [ha.1]
     exact hS _ hg
 · rename_i id
   generalize hv:Value.slice (some ⟨g,o,none⟩) l.length cap=v at hx
   cases hx with
   | own hb hm =>
     refine hs id (by simp [fC]) ?_ g (by rw [hm,← hv]; rfl)
     split at hl
     · rename_i ho; rw [ho]; rfl
     · simp at hl
 · rename_i id off len
   generalize hv:Value.slice (some ⟨g,o,none⟩) l.length cap=v at hx
   cases hx with
   | win hb hm h4 h5 h6 =>
     simp only [Value.slice.injEq] at hv
     obtain ⟨g', hA,hB⟩:=h6 (by omega)
     rw [← hv.1] at hB
     simp only [Option.some.injEq,Addr.mk.injEq,and_true] at hB
     refine hs id (by simp [fC]) ?_ g (by rw [hm,hA,hB.1]; rfl)
     split at hl
     · rename_i ho; rw [ho]; rfl
     · simp at hl
 · simp only [Option.some.injEq] at hl
   subst hl
   simp at hp'
 · rename_i v'
   cases hb:tH v' with
   | false=>rw [hb] at hl; simp at hl
   | true =>
     rw [hb] at hl
     simp only [cond_true,Option.some.injEq] at hl
     subst hl
     simp at hp'
theorem aGJ (hH:HR n0 c H w) {t:CTy} {x:AV} {v:Value} (hx:AVR c w x v) {d:t.D} (hd:aAG H t x=some d) {S:Nat→Prop} (hS:∀ g,c.S g→S g)
 (hs:∀ id∈fC x,eU (aF H id)=true→∀ g,blk (c.m id)=some g→S g):CellR S w t d v:=by
 cases t with
 | int k =>
   change asI k x=some d at hd
   cases x <;> simp only [asI] at hd <;> try (simp at hd; done)
   rename_i k' n
   split at hd
   · rename_i hk
     have hk' : k=k' := by simpa using hk
     subst hk'
     have hd' : n=d:=Option.some.inj hd
     subst hd'
     simp only [CellR]
     exact eA hx
   · simp at hd
 | bool =>
   change asB x=some d at hd
   cases x <;> simp only [asB] at hd <;> try (simp at hd; done)
   rename_i b
   have hd' : b=d:=Option.some.inj hd
   subst hd'
   simp only [CellR]
   exact gV hx
 | str =>
   change asS x=some d at hd
   cases x <;> simp only [asS] at hd <;> try (simp at hd; done)
   rename_i b
   have hd' : b=d:=Option.some.inj hd
   subst hd'
   simp only [CellR]
   exact iE hx
 | slice e =>
   have hd' : fS H e x=some d:=hd
   exact uG hH hx hd' hS hs
theorem uH (hH:HR n0 c H w):∀ {e:ETy} {cs:List AV} {vs:List Value} {y:e.D},CellsR c w cs vs→gH H e cs=some y→∀ {S:Nat→Prop},(∀ g,c.S g→S g) →
 (∀ id∈bM cs,eU (aF H id)=true→∀ g,blk (c.m id)=some g→S g)→ElemR S w e y vs
 | .one t,[],_,_,_,hy,_,_,_=>by simp [gH] at hy
 | .one t,_ :: _ :: _,_,_,_,hy,_,_,_=>by simp [gH] at hy
 | .one t,[x],vs,y,h,hy,S,hS,hs=>by
   simp only [gH] at hy
   obtain ⟨v,rfl⟩:∃ v,vs=[v]:=List.length_eq_one_iff.1 (by simpa using h.1.symm)
   simp only [ElemR]
   refine ⟨v,rfl,aGJ hH (by simpa using h.2 0 x rfl) hy hS fun id hid=>hs id ?_⟩
   show id∈fC x ++ []
   simpa using hid
 | .more t e,[],_,_,_,hy,_,_,_=>by simp [gH] at hy
 | .more t e,x :: r,vs,y,h,hy,S,hS,hs=>by
   cases vs with
   | nil=>simp [CellsR] at h
   | cons v vs =>
     simp only [gH] at hy
     split at hy
     · rename_i p q hp hq
       have hy' := Option.some.inj hy
       subst hy'
       simp only [ElemR]
       have hs' : ∀ id,id∈fC x∨id∈bM r→eU (aF H id)=true→∀ g,blk (c.m id)=some g→S g:=fun id hid=>hs id (by show id∈fC x ++ bM r; exact List.mem_append.2 hid)
       refine ⟨v,vs,rfl,aGJ hH (by simpa using h.2 0 x rfl) hp hS fun id hid=>hs' id (.inl hid),uH hH ⟨by simpa using h.1,fun j z hz=>by simpa using h.2 (j+1) z (by simpa using hz)⟩ hq hS fun id hid=>hs' id (.inr hid)⟩
     · simp at hy
theorem aGK (size:Nat):∀ (vparts:List (Nat × Value)) (k:Nat) (cells:Array Value),(∀ (i:Nat) (p:Nat × Value),vparts[i]? = some p→p.1=k+i∧p.2.cells.size=size)→(k+vparts.length) * size≤cells.size →
 ∃ us,Instr.fill (fun i=>some (i * size,size)) cells vparts=some us∧us.size=cells.size∧(∀ j:Nat,j<k * size→us[j]? = cells[j]?) ∧
   ∀ (i:Nat) (p:Nat × Value),vparts[i]? = some p→∀ (j:Nat) (u:Value),p.2.cells[j]? = some u→us[(k+i) * size+j]? = some u
 | [],k,cells,_,_=>⟨cells,rfl,rfl,fun _ _=>rfl,fun i p hp=>by simp at hp⟩
 | p :: vparts,k,cells,h,hs=>by
   obtain ⟨h1,h2⟩:=h 0 p rfl
   simp only [List.length_cons] at hs
   have e1:(k+(vparts.length+1)) * size=k * size+vparts.length * size+size:=by rw [Nat.add_mul,Nat.add_mul]; omega
   have hlay:(p.2.cells.zipIdx.foldl (fun cs (x:Value × Nat)=>cs.setIfInBounds (p.1 * size+x.2) x.1) cells).toList=cells.toList.take (k * size) ++ p.2.cells.toList ++ cells.toList.drop (k * size+size):=by
     rw [← Array.foldl_toList,Array.toList_zipIdx,aBD (p.1 * size) _ 0,h1,Nat.add_zero,Nat.add_zero,j6 _ _ _ (by simp only [Array.length_toList]; omega)]
     simp only [Array.length_toList,h2]
   generalize hc:p.2.cells.zipIdx.foldl (fun cs (x:Value × Nat)=>cs.setIfInBounds (p.1 * size+x.2) x.1) cells=cells1 at hlay
   have hsz:cells1.size=cells.size:=by
     have:=congrArg List.length hlay
     simp only [Array.length_toList,List.length_append,List.length_take,List.length_drop,h2] at this
     omega
   have hget:∀ j:Nat,cells1[j]? = (cells.toList.take (k * size) ++ p.2.cells.toList ++ cells.toList.drop (k * size+size))[j]? := by
     intro j; rw [← hlay]; simp
   obtain ⟨us,g1,g2,g3,g4⟩:=aGK size vparts (k+1) cells1 (fun i q hq=>by
     have:=h (i+1) q (by simpa using hq)
     exact ⟨by omega,this.2⟩) (by
        rw [hsz]
        have e2:(k+1+vparts.length) * size=k * size+vparts.length * size+size:=by rw [Nat.add_mul,Nat.add_mul]; omega
        omega)
   have e3:(k+1) * size=k * size+size:=by rw [Nat.add_mul,Nat.one_mul]
   refine ⟨us,?_,by omega,fun j hj=>?_,fun i q hq j u hu=>?_⟩
   · obtain ⟨p1,p2⟩:=p
     simp only [Instr.fill]
     rw [if_neg (by simp only [Bool.or_eq_true,decide_eq_true_eq]; simp only at h1 h2; subst h1; omega)]
     simp only at hc
     rw [hc]
     exact g1
   · rw [g3 j (by omega),hget,List.append_assoc,List.getElem?_append_left (by simp only [List.length_take,Array.length_toList]; omega),List.getElem?_take,if_pos hj]
     simp
   · cases i with
     | zero =>
       simp only [List.getElem?_cons_zero,Option.some.injEq] at hq
       subst hq
       have hj:j<size:=by rw [← h2]; exact (Array.getElem?_eq_some_iff.1 hu).1
       rw [Nat.add_zero,g3 _ (by omega),hget,List.append_assoc,List.getElem?_append_right (by simp only [List.length_take,Array.length_toList]; omega),List.getElem?_append_left (by simp only [List.length_take,Array.length_toList,h2]; omega)]
       have:k * size+j - (cells.toList.take (k * size)).length=j:=by simp only [List.length_take,Array.length_toList]; omega
       rw [this]
       simpa using hu
     | succ i =>
       have:=g4 i q (by simpa using hq) j u hu
       rwa [show k+1+i=k+(i+1) by omega] at this
theorem aGL (hH:HR n0 c H w) {e:ETy} {S:Nat→Prop} (hS:∀ g,c.S g→S g):∀ (parts:List (Nat × AV)) (vparts:List (Nat × Value)) (k:Nat) (l:List e.D),parts.length=vparts.length →
 (∀ (j:Nat) (p:Nat × AV),parts[j]? = some p→∃ q,vparts[j]? = some q∧q.1=p.1∧AVR c w p.2 q.2)→(∀ id∈jX parts,eU (aF H id)=true→∀ g,blk (c.m id)=some g→S g)→pS H e parts k=some l →
 l.length=parts.length∧(∀ (i:Nat) (q:Nat × Value),vparts[i]? = some q→q.1=k+i∧q.2.cells.size=e.size)∧∀ (i:Nat) (x:e.D),l[i]? = some x→∃ q,vparts[i]? = some q∧ElemR S w e x q.2.cells.toList
 | [],[],k,l,_,_,_,hl=>by
   simp only [pS,Option.some.injEq] at hl
   subst hl
   exact ⟨rfl,fun i q hq=>by simp at hq,fun i x hx=>by simp at hx⟩
 | [],_ :: _,_,_,hlen,_,_,_=>by simp at hlen
 | _ :: _,[],_,_,hlen,_,_,_=>by simp at hlen
 | p :: parts,q :: vparts,k,l,hlen,hp,hs,hl=>by
   simp only [pS] at hl
   cases hb:Nat.beq p.1 k with
   | false=>rw [hb] at hl; simp at hl
   | true =>
     rw [hb] at hl
     cases hv:gT p.2 with
     | false=>rw [hv] at hl; simp at hl
     | true =>
       rw [hv] at hl
       simp only [cond_true] at hl
       obtain ⟨q', hq1,hq2,hq3⟩:=hp 0 p rfl
       simp only [List.getElem?_cons_zero,Option.some.injEq] at hq1
       subst hq1
       have hsplit:∀ id,id∈bM (cellsOf p.2)∨id∈jX parts→eU (aF H id)=true→∀ g,blk (c.m id)=some g→S g:=fun id hid=>hs id (by show id∈bM (cellsOf p.2) ++ jX parts; exact List.mem_append.2 hid)
       split at hl
       · rename_i x hx
         split at hl
         · rename_i l' hl'
           simp only [Option.some.injEq] at hl
           subst hl
           have hel:=uH hH (nA hq3 hv).1 hx hS fun id hid=>hsplit id (.inl hid)
           obtain ⟨h1,h2,h3⟩:=aGL hH hS parts vparts (k+1) l' (by simpa using hlen) (fun j p' hp' => by simpa using hp (j+1) p' (by simpa using hp')) (fun id hid=>hsplit id (.inr hid)) hl'
           refine ⟨by simp [h1],fun i q' hq' => ?_,fun i y hy=>?_⟩
           · cases i with
             | zero =>
               simp only [List.getElem?_cons_zero,Option.some.injEq] at hq'
               subst hq'
               exact ⟨by rw [hq2,Nat.eq_of_beq_eq_true hb]; rfl,by simpa using hel.length⟩
             | succ i =>
               have:=h2 i q' (by simpa using hq')
               exact ⟨by omega,this.2⟩
           · cases i with
             | zero =>
               simp only [List.getElem?_cons_zero,Option.some.injEq] at hy
               subst hy
               exact ⟨q,rfl,hel⟩
             | succ i =>
               obtain ⟨q', hq', he⟩:=h3 i y (by simpa using hy)
               exact ⟨q', by simpa using hq', he⟩
         · simp at hl
       · simp at hl
theorem aGM (hM:Mem n0 c H w) (h:EnvR c w env a.tmps) (hT:bC P T) {t:TypeId} {n:Nat} {parts:Array (Nat × Operand)} (ho:o.op = .buildSlice t n parts):dX P n0 c w o a (pW T H t n (d9 env parts)):=by
 unfold pW
 split
 · rename_i p hp
   obtain ⟨et,i,z,h1,h2,h3,h4,h5,h6,h7⟩:=aBH hT hp
   unfold aAU
   split
   · rename_i l hl
     intro hg
     cases hb:Nat.beq l.length n with
     | false=>rw [hb] at hg; simp at hg
     | true =>
       rw [hb] at hg
       have hn:=Nat.eq_of_beq_eq_true hb
       have hle:=(eH _ _).1 hg
       obtain ⟨S,hS1,hS2,hS3⟩:=hM.freezeAt (jX (d9 env parts))
       obtain ⟨g1,g2,g3⟩:=aGL (c:=c) hM.obj hS1 (d9 env parts) (parts.map fun (i,x)=>(i,a.eval x)).toList 0 l (by simp [d9]) (fun j p hp=>by
        simp only [d9,List.getElem?_map,Option.map_eq_some_iff] at hp
        obtain ⟨q,hq,rfl⟩:=hp
        have hq' : parts[j]? = some q:=by simpa using hq
        exact ⟨(q.1,a.eval q.2),by simp [hq'],rfl,bN h q.2⟩) hS3 hl
       have hlen:(parts.map fun (i,x)=>(i,a.eval x)).toList.length=n:=by rw [← hn,g1]; simp [d9]
       generalize hvp:parts.map (fun (i,x)=>(i,a.eval x))=vparts at *
       obtain ⟨us,f1,f2,f3,f4⟩:=aGK p.1.size vparts.toList 0 ((Array.range (n * p.1.size)).map ((if n * i.size=0 then #[] else z.cells)[· % (if n * i.size=0 then #[] else z.cells).size]!)) g2 (by rw [Nat.zero_add,hlen]; simp)
       have hsz:us.size=n * p.1.size:=by rw [f2]; simp
       have hrun:(Instr.buildSlice t n vparts).run P w = .ok (.slice (some ⟨w.heap.size,0,none⟩) n n) (w.alloc (.cells us et)):=by
        have h24:¬ (16777216<n * i.size):=by rw [h4]; omega
        by_cases hz0:n * i.size=0
        · have hz0' : n * p.1.size=0:=by rw [← h4]; exact hz0
          simp only [hz0', Array.range_zero', if_pos hz0] at f1
          simp [Instr.buildSlice,run_underlying h1,sizeOf,typeInfo,h2,h24,hz0,newRow,Array.range_zero', Sem.run_bind,Sem.run_pure]
          simp at f1
          rw [h4]
          rw [f1]
          simp [Sem.run_pure]
        · rw [if_neg hz0] at f1
          simp [Instr.buildSlice,run_underlying h1,sizeOf,typeInfo,zeroValue,h2,h3,h24,hz0,newRow,Sem.run_bind,Sem.run_pure]
          rw [h4]
          rw [f1]
          simp [Sem.run_pure]
       have hold:∀ g,g<w.heap.size→(w.alloc (.cells us et)).heap[g]? = w.heap[g]? := fun g hg=>heap_alloc_old w _ g hg
       have hfl:=aBI (jX (d9 env parts)) H
       have hown:=qM hS2 (v := .slice (some ⟨w.heap.size,0,none⟩) n n) (z:=p.1.size) (w' := w.alloc (.cells us et)) rfl
       rw [hfl] at hown
       refine ⟨_,_,(c.withS S).more (.slice (some ⟨w.heap.size,0,none⟩) n n) p.1.size S,?_,?_,hown,?_,(RowKit.Below.refl n0 w).alloc hM.base _,fun g hg=>hold g (hM.stab g hg)⟩
       · simp only [execOp,ho,Sem.run_bind,hvp,hrun,Result.andThen_ok,Sem.run_pure]
       · exact (Ctx.withS_le c hS1).trans (Ctx.more_le _ _ _ fun _ h=>h)
       · refine uE hS2 (Ty:=et) (cells:=us.toList) hold (by simp) (fun g hg=>by simp [blk] at hg; omega) ?_ ?_
         · rw [hn]
           refine World.ownsRow_lit w us n hM.base ?_ hsz
           have:=p.1.size_pos
           have:n * 1≤n * p.1.size:=Nat.mul_le_mul_left _ this
           simp only [maxLen]
           omega
         · intro j x hx
           obtain ⟨q,hq,he⟩:=g3 j x hx
           refine ⟨q.2.cells.toList,ElemR.mono (S:=S) (S' := S) (w:=w) (fun _ h=>h) (fun g hg=>hold g (hS2.stab g hg)) he,fun k u hu=>?_⟩
           have:=f4 j q hq k u (by simpa using hu)
           rw [Nat.zero_add] at this
           simpa using this
   · trivial
 · trivial
end
end
section
section
variable {P:Program} (w:World)
theorem aRU (t ty e T:TypeId) (i:TypeInfo) (ht:P.underlying t=some (.slice e)) (hi:P.info? e=some i)
 (g sLen sCap:Nat) (cur:Array Value) (hg:w.heap[g]? = some (.cells cur T (0,0)))
 (a:Addr) (m c:Nat) (news:List Value) (hl:news.length=m * i.size) (hnews:∀ j u,news[j]? = some u→w.cell? (a.add j)=some u) (h1:∀ u∈news,u.oneCell' = true)
 (hroom:sLen+m≤sCap) (hfit:sLen * i.size+news.length≤cur.size) :
 (Builtin.append_ #[t,t] ty #[.slice (some ⟨g,0,none⟩) sLen sCap, .slice (some a) m c]).run P w =
  .ok (.slice (some ⟨g,0,none⟩) (sLen+m) sCap) (w.setRow g (cur.toList.take (sLen * i.size) ++ news ++ cur.toList.drop (sLen * i.size+news.length)).toArray):=by
 have hf:=run_firstCells_some (P:=P) w i.size m a m c news hl hnews
 have hst:=run_storeCells_at P g (sLen * i.size) T news 0 cur w hg (by simpa using hfit) h1
 simp only [Nat.add_zero] at hst
 simp [Builtin.append_,run_underlying ht,sizeOf,typeInfo,hi,Builtin.lenOf,hroom,hf,Addr.add_lit,hst]
theorem aGN (base:Nat) (t ty e T:TypeId) (i:TypeInfo) (z:Value) (size bytes:Nat) (ht:P.underlying t=some (.slice e)) (hi:P.info? e=some i) (hz:i.zero=some z)
 (hsize:i.size=size) (hby:i.bytes=bytes) (hzs:z.cells.size=size) (hsz:0<size)
 (v:Value) (n:Nat) (xs:List Value) (hown:w.ownsRow base T size v n xs)
 (a:Addr) (m c:Nat) (news:List Value) (hl:news.length=m * size) (hnews:∀ j u,news[j]? = some u→w.cell? (a.add j)=some u) (h1:∀ u∈news,u.oneCell' = true)
 (h63:n+m≤maxLen) (hbytes:(n+m) * bytes≤140737488355328) (hbase:base≤w.heap.size) :
 ∃ v' w' T', (Builtin.append_ #[t,t] ty #[v, .slice (some a) m c]).run P w = .ok v' w' ∧ w'.ownsRow base T' size v' (n+m) (xs ++ news)∧w.grownBy w' v.ownBlock ∧
   (v'.ownBlock=v.ownBlock∨v'.ownBlock=some w.heap.size):=by
 subst hsize
 subst hby
 have hsmall:n+m≤9223372036854775807:=by simp only [maxLen] at h63; omega
 have hlen:(xs ++ news).length=(n+m) * i.size:=by rw [List.length_append,hown.1,hl,Nat.add_mul]
 have grown:∀ (old:Nat),old<n+m→∀ (row:Option Nat),
  (w.drew.alloc (.cells (xs.toArray ++ news.toArray ++ Builtin.zeroCells z.cells (grownCap w (n+m) old e - (n+m))) e)).ownsRow base e i.size
        (.slice (some ⟨w.heap.size,0,none⟩) (n+m) (grownCap w (n+m) old e)) (n+m) (xs ++ news) ∧
  w.grownBy (w.drew.alloc (.cells (xs.toArray ++ news.toArray ++ Builtin.zeroCells z.cells (grownCap w (n+m) old e - (n+m))) e)) row:=by
  intro old ho row
  have hge:=grownCap_ge w (n+m) old e
  have hcm:grownCap w (n+m) old e≤maxLen:=grownCap_le_maxLen w (n+m) old e h63
  refine ⟨⟨hlen, .inr ⟨w.heap.size,_,_,rfl,hbase,heap_alloc_new w.drew _,hge,hcm,?_,?_⟩⟩,⟨rfl,rfl,rfl,by simp,fun k hk _=>heap_alloc_old w.drew _ k hk⟩⟩
  · simp only [Array.size_append,List.size_toArray,size_zeroCells,hzs,hown.1,hl,← Nat.add_mul]
    congr 1
    omega
  · simp only [Array.toList_append,List.append_assoc]
    rw [← List.append_assoc,← hlen]
    exact List.take_left
 rcases hown.2 with ⟨rfl,rfl⟩ | ⟨g,cap,cur,rfl,hbg,hg,hnc,hcm,hcs,htake⟩
 · have hx:xs=[]:=List.eq_nil_of_length_eq_zero (by simpa using hown.1)
   subst hx
   by_cases hm:m=0
   · subst hm
     have hn:news=[]:=List.eq_nil_of_length_eq_zero (by simpa using hl)
     subst hn
     refine ⟨.slice none 0 0,w,e,?_,World.ownsRow_nil w base e i.size,⟨rfl,rfl,rfl,Nat.le_refl _,fun _ _ _=>rfl⟩, .inl rfl⟩
     simp [Builtin.append_,run_underlying ht,sizeOf,typeInfo,hi,Builtin.lenOf,Builtin.firstCells,loadCells,loadCellsFrom]
   · have hr:=run_append_nil (P:=P) w t ty e i z ht hi hz a m c news hl hnews (by omega) (by omega) (by have hb:=hbytes; simp only [Nat.zero_add] at hb; omega)
     have hgr:=grown 0 (by omega) (Value.ownBlock (.slice none 0 0))
     simp only [Nat.zero_add,List.nil_append,Array.empty_append] at hgr ⊢
     exact ⟨_,_,_,hr,hgr.1,hgr.2, .inr rfl⟩
 · by_cases hroom:n+m≤cap
   · have hfit:n * i.size+news.length≤cur.size:=by rw [hl,hcs,← Nat.add_mul]; exact Nat.mul_le_mul_right _ hroom
     have hr:=aRU (P:=P) w t ty e T i ht hi g n cap cur hg a m c news hl hnews h1 hroom hfit
     refine ⟨_,_,T,hr,⟨hlen, .inr ⟨g,cap,_,rfl,hbg,setRow_heap w g cur _ T _ hg,hroom,hcm,?_,?_⟩⟩,⟨rfl,rfl,rfl,by simp,fun k _ hk=>setRow_other w g k _ (fun e=>hk (by simp [Value.ownBlock,e]))⟩, .inl rfl⟩
     · simp only [List.size_toArray,List.length_append,List.length_take,List.length_drop,Array.length_toList]
       omega
     · rw [htake,← hlen]
       exact List.take_left
   · have holds:∀ j u,xs[j]? = some u→w.cell? ((⟨g,0,none⟩:Addr).add j)=some u:=hown.cells (g:=g) rfl
     have hr:=run_append_grow (P:=P) w t ty e i z ht hi hz ⟨g,0,none⟩ n cap xs hown.1 holds a m c news hl hnews (by omega) (by omega) (growslice_fits (by omega) hbytes)
     have hgr:=grown cap (by omega) (Value.ownBlock (.slice (some ⟨g,0,none⟩) n cap))
     exact ⟨_,_,_,hr,hgr.1,hgr.2, .inr rfl⟩
theorem aRV (base:Nat) (t ty e T:TypeId) (i:TypeInfo) (size:Nat) (ht:P.underlying t=some (.slice e)) (hi:P.info? e=some i)
 (v:Value) (n:Nat) (xs:List Value) (hown:w.ownsRow base T size v n xs) (c:Nat) :
 (Builtin.append_ #[t,t] ty #[v, .slice none 0 c]).run P w = .ok v w:=by
 rcases hown.2 with ⟨rfl,rfl⟩ | ⟨g,cap,cur,rfl,_,_,hnc,_⟩
 · simp [Builtin.append_,run_underlying ht,sizeOf,typeInfo,hi,Builtin.lenOf,Builtin.firstCells]
 · simp [Builtin.append_,run_underlying ht,sizeOf,typeInfo,hi,Builtin.lenOf,Builtin.firstCells,hnc,storeCells]
end
section
variable {P:Program} {T:Tab} {n0:Nat} {c:Ctx} {H:List aA} {w:World} {env:Env} {a:Act} {o:Oper}
theorem aRW {S:Nat→Prop} {e:ETy} {l:List e.D} {g o' : Nat} (hi:∀ (i:Nat) (x:e.D),l[i]? = some x→∃ vs,ElemR S w e x vs∧∀ (j:Nat) (u:Value),vs[j]? = some u→w.cell? ⟨g,o' + i * e.size+j,none⟩=some u) :
 ∃ news:List Value,news.length=l.length * e.size∧(∀ (j:Nat) (u:Value),news[j]? = some u→w.cell? ((⟨g,o', none⟩:Addr).add j)=some u)∧(∀ u∈news,u.oneCell' = true)∧RowR S w e l news:=by
 have key:∀ j,j<l.length * e.size→∃ u,w.cell? ⟨g,o' + j,none⟩=some u∧u.oneCell' = true:=by
  intro j hj
  have hpos:=e.size_pos
  have hq:j / e.size<l.length:=Nat.div_lt_of_lt_mul (by rwa [Nat.mul_comm])
  obtain ⟨vs,h1,h2⟩:=hi (j / e.size) _ (List.getElem?_eq_getElem hq)
  have hr:j % e.size<vs.length:=by rw [h1.length]; exact Nat.mod_lt _ hpos
  refine ⟨vs[j % e.size],?_,h1.one _ (List.getElem_mem hr)⟩
  have:=h2 _ _ (List.getElem?_eq_getElem hr)
  rwa [Nat.add_assoc,Nat.mul_comm,Nat.div_add_mod] at this
 have hget:∀ (j:Nat) (u:Value),((List.range (l.length * e.size)).map fun j=>(w.cell? ⟨g,o' + j,none⟩).getD default)[j]? = some u→j<l.length * e.size∧(w.cell? ⟨g,o' + j,none⟩).getD default=u:=by
  intro j u hu
  rw [List.getElem?_map,Option.map_eq_some_iff] at hu
  obtain ⟨k,hk,rfl⟩:=hu
  by_cases hj:j<l.length * e.size
  · rw [List.getElem?_range hj] at hk
    simp only [Option.some.injEq] at hk
    subst hk
    exact ⟨hj,rfl⟩
  · rw [List.getElem?_eq_none (by simp; omega)] at hk
    simp at hk
 refine ⟨(List.range (l.length * e.size)).map fun j=>(w.cell? ⟨g,o' + j,none⟩).getD default,by simp,fun j u hu=>?_,fun u hu=>?_,fun i x hx=>?_⟩
 · obtain ⟨hj,rfl⟩:=hget j u hu
   obtain ⟨u,hu,_⟩:=key j hj
   rw [fW,hu]; rfl
 · obtain ⟨j,hj0⟩:=List.mem_iff_getElem?.1 hu
   obtain ⟨hj,he⟩:=hget j u hj0
   obtain ⟨u', hu', h1⟩:=key j hj
   rw [hu'] at he
   rw [← he]; exact h1
 · obtain ⟨vs,h1,h2⟩:=hi i x hx
   refine ⟨vs,h1,fun j u hu=>?_⟩
   have hil:i<l.length:=(List.getElem?_eq_some_iff.1 hx).1
   have hj:j<e.size:=by rw [← h1.length]; exact (List.getElem?_eq_some_iff.1 hu).1
   have hlt:i * e.size+j<l.length * e.size:=by
    have:(i+1) * e.size≤l.length * e.size:=Nat.mul_le_mul_right _ (by omega)
    rw [Nat.add_mul] at this
    omega
   rw [List.getElem?_map,List.getElem?_range hlt]
   have:=h2 j u hu
   simp only [Option.map_some]
   rw [← Nat.add_assoc,this]; rfl
theorem RowR.mono {S S' : Nat→Prop} {w' : World} {e:ETy} {xs:List e.D} {cells:List Value} (hS:∀ g,S g→S' g) (hw:∀ g,S g→w'.heap[g]? = w.heap[g]?) (h:RowR S w e xs cells):RowR S' w' e xs cells:=fun i x hx=>by
 obtain ⟨vs,h1,h2⟩:=h i x hx
 exact ⟨vs,h1.mono hS hw,h2⟩
theorem RowR.append {S:Nat→Prop} {e:ETy} {xs ys:List e.D} {cs ds:List Value} (h:RowR S w e xs cs) (hl:cs.length=xs.length * e.size) (h' : RowR S w e ys ds):RowR S w e (xs ++ ys) (cs ++ ds):=fun i x hx=>by
 by_cases hi:i<xs.length
 · rw [List.getElem?_append_left hi] at hx
   obtain ⟨vs,h1,h2⟩:=h i x hx
   refine ⟨vs,h1,fun j u hu=>?_⟩
   have:=h2 j u hu
   rw [List.getElem?_append_left]
   · exact this
   · exact (List.getElem?_eq_some_iff.1 this).1
 · rw [List.getElem?_append_right (by omega)] at hx
   obtain ⟨vs,h1,h2⟩:=h' _ x hx
   refine ⟨vs,h1,fun j u hu=>?_⟩
   have:=h2 j u hu
   have e1:i * e.size=xs.length * e.size+(i - xs.length) * e.size:=by rw [← Nat.add_mul]; congr 1; omega
   rw [List.getElem?_append_right (by omega),hl,e1]
   rw [show xs.length * e.size+(i - xs.length) * e.size+j - xs.length * e.size=(i - xs.length) * e.size+j by omega]
   exact this
theorem aBK (hM:Mem n0 c H w) {w' : World} {e:ETy} {xs:List e.D} {Ty:TypeId} {v v0:Value} {cells:List Value} (H1:List aA) (hH1:H1.length=H.length) (hd:∀ k,aV (aF H1 k)=true→aF H1 k=aF H k∧(∀ g,blk (c.m k)=some g→some g≠v0.ownBlock))
 (hg:w.grownBy w' v0.ownBlock) (hv0:∀ g,v0.ownBlock=some g→n0≤g∧¬ c.S g) (hblk:v.ownBlock=v0.ownBlock∨v.ownBlock=some w.heap.size) (hvs:∃ A n k,v = .slice A n k)
 (hown:w'.ownsRow n0 Ty e.size v xs.length cells) (hrow:RowR c.S w' e xs cells) :
 Mem n0 (c.more v e.size c.S) (H1 ++ [.typed e xs false]) w' ∧ RowKit.Below n0 w w' ∧ ∀ g,c.S g→w'.heap[g]? = w.heap[g]? := by
 obtain ⟨A,n,k,rfl⟩:=hvs
 have hS:∀ g,c.S g→w'.heap[g]? = w.heap[g]? := fun g hg' => hg.block g (hM.stab g hg') fun h=>(hv0 g h.symm).2 hg'
 have hcl:=hM.obj.len
 have hvb:∀ g,blk (.slice A n k)=some g→(Value.slice A n k).ownBlock=some g:=fun g h=>by rw [← aQ9 (.slice A n k) n k A rfl]; exact h
 have hlt:∀ k,aV (aF H1 k)=true→k<H.length:=fun k hk=>by rw [← hH1]; exact cU (fun h=>by rw [h] at hk; simp [aV] at hk)
 have hle:=Ctx.more_le c (.slice A n k) e.size (S:=c.S) (fun _ hg=>hg)
 have hkeep:∀ id,aV (aF H1 id)=true→∀ g,blk (c.m id)=some g→w'.heap[g]? = w.heap[g]? := fun id hal g hg' => by
  obtain ⟨h1,h2⟩:=hd id hal
  exact hg.block g (hM.obj.lt id g (hlt id hal) (by rw [← h1]; exact hal) hg') (h2 g hg')
 have hfresh:∀ id,aV (aF H1 id)=true→∀ g,blk (c.m id)=some g→blk (.slice A n k)≠some g:=fun id hal g hg' hb=>by
  obtain ⟨h1,h2⟩:=hd id hal
  rcases hblk with hb' | hb'
  · exact h2 g hg' (by rw [← hb', hvb g hb])
  · rw [hvb g hb] at hb'
    have:=hM.obj.lt id g (hlt id hal) (by rw [← h1]; exact hal) hg'
    simp only [Option.some.injEq] at hb'
    omega
 refine ⟨⟨⟨by simp [Ctx.more,hcl,hH1],fun id hid=>?_,fun i j g hi hj hne ai aj bi=>?_⟩,by have:=hM.base; have:=hg.size; omega,fun g hg' => by have:=hM.stab g hg'; have:=hg.size; omega,fun g hg' hl=>hM.old g hg' hl⟩,(RowKit.Below.refl n0 w).grown hg hM.base (fun g h=>(hv0 g h).1),hS⟩
 · rw [uD]
   by_cases h1:id<H1.length
   · rw [if_pos h1]
     by_cases hal:aV (aF H1 id)=true
     · rw [(hd id hal).1]
       exact (hM.obj.obj id (by omega)).mono hle (by omega) (fun _ _ hg=>hg) hS (hkeep id hal)
     · cases ho:aF H1 id with
       | dead=>trivial
       | typed e xs fz=>rw [ho] at hal; simp [aV] at hal
       | box cs=>rw [ho] at hal; simp [aV] at hal
   · have hid' : id=c.n:=by simp at hid; omega
     rw [if_neg h1,if_pos (by omega),hid']
     have hv:(c.more (.slice A n k) e.size c.S).m c.n = .slice A n k:=by simp [Ctx.more]
     refine ⟨by simp [Ctx.more],⟨Ty,cells,by rw [hv]; exact hown,hrow⟩,fun g hg' => ⟨fun h=>by simp at h,fun _ hSg=>?_⟩⟩
     rw [hv] at hg'
     rcases hblk with hb' | hb'
     · rw [hvb g hg'] at hb'
       exact (hv0 g hb'.symm).2 hSg
     · rw [hvb g hg'] at hb'
       simp only [Option.some.injEq] at hb'
       have:=hM.stab g hSg
       omega
 · simp only [List.length_append,List.length_singleton] at hi hj
   rw [uD] at ai aj
   have em:∀ k', k' < H1.length→(c.more (.slice A n k) e.size c.S).m k' = c.m k' := fun k' hk=>by simp [Ctx.more,show ¬ k' = c.n by omega]
   have en:(c.more (.slice A n k) e.size c.S).m H1.length = .slice A n k:=by simp [Ctx.more,hcl,hH1]
   by_cases h1:i<H1.length
   · rw [if_pos h1] at ai
     rw [em i h1] at bi
     by_cases h2:j<H1.length
     · rw [if_pos h2] at aj
       rw [em j h2]
       exact hM.obj.dist i j g (by omega) (by omega) hne (by rw [← (hd i ai).1]; exact ai) (by rw [← (hd j aj).1]; exact aj) bi
     · have hj' : j=H1.length:=by omega
       subst hj'
       rw [en]
       exact hfresh i ai g bi
   · have hi' : i=H1.length:=by omega
     subst hi'
     rw [en] at bi
     have h2:j<H1.length:=by omega
     rw [if_pos h2] at aj
     rw [em j h2]
     intro hb
     exact hfresh j aj g hb bi
theorem aGO {A:Option Addr} {n k n' k' g:Nat} (h:(Value.slice A n k).ownBlock=some g):blk (.slice A n' k')=some g:=by
 cases A with
 | none=>simp [Value.ownBlock] at h
 | some a=>simpa [Value.ownBlock,blk] using h
theorem aRX {n1:Nat} {Ty:TypeId} {z n m k:Nat} {A:Option Addr} {xs:List Value} (h:w.ownsRow n1 Ty z (.slice A n k) m xs):n=m:=by
 rcases h.2 with ⟨h1,h2⟩ | ⟨g,cap,cur,h1,_⟩
 · simp only [Value.slice.injEq] at h1; omega
 · simp only [Value.slice.injEq] at h1; exact h1.2.1
theorem aGP {n1:Nat} {Ty:TypeId} {z n k m n2:Nat} {A:Option Addr} {xs:List Value} (h:w.ownsRow n1 Ty z (.slice A n k) n2 xs) (hm:m≤n2):w.ownsRow n1 Ty z (.slice A m k) m (xs.take (m * z)):=by
 have hmz:m * z≤n2 * z:=Nat.mul_le_mul_right _ hm
 refine ⟨by rw [List.length_take,h.1]; omega,?_⟩
 rcases h.2 with ⟨h1,h2⟩ | ⟨g,cap,cur,h1,h3,h4,h5,h6,h7,h8⟩
 · simp only [Value.slice.injEq] at h1
   exact .inl ⟨by rw [h1.1,h1.2.2,show m=0 by omega],by omega⟩
 · simp only [Value.slice.injEq] at h1
   refine .inr ⟨g,cap,cur,by rw [h1.1,h1.2.2],h3,h4,by omega,h6,h7,?_⟩
   rw [← h8,List.take_take,Nat.min_eq_left hmz]
theorem aRY {id:Nat} {v:Value} (h:AVR c w (.own id) v):v=c.m id:=by
 cases h with
 | own hb hm=>exact hm.symm
theorem aRZ {o:Oper} {s x:Operand} {t:TypeId} (ho:o.op = .call { callee := .builtin .append,args:=#[s,x],argTypes:=#[t,t] }) {v:Value} {w' : World}
 (h:(Builtin.append_ #[t,t] o.type #[a.eval s,a.eval x]).run P w = .ok v w'):(execOp a.eval o).run P w = .ok (.value v) w' := by
 simp only [execOp,ho,resolve,invoke,builtin,Sem.run_bind,Sem.run_pure,Result.andThen_ok,List.map_toArray,List.map_cons,List.map_nil,h]
theorem aR0 (hM:Mem n0 c H w) (h:EnvR c w env a.tmps) (hT:bC P T) {t:TypeId} {s x:Operand} (ho:o.op = .call { callee := .builtin .append,args:=#[s,x],argTypes:=#[t,t] }) :
 dX P n0 c w o a (tN T H t (aD env s) (aD env x)):=by
 have hs:=bN h s
 have hx:=bN h x
 have hrun:=fun v w' (hh:(Builtin.append_ #[t,t] o.type #[a.eval s,a.eval x]).run P w = .ok v w')=>aRZ (o:=o) (a:=a) (w:=w) ho hh
 generalize a.eval s=vs at *
 generalize a.eval x=vx at *
 generalize aD env s=X at *
 generalize aD env x=Y at *
 unfold tN
 split
 · rename_i p hp
   obtain ⟨et,i,z,h1,h2,h3,h4,h5,h6,h7⟩:=aBH hT hp
   split
   · rename_i ys hys
     have hrow:=aBE hM.obj hx hys
     have fin:∀ (id:Option Nat) (xs:List p.1.D) (Ty:TypeId) (cells:List Value),w.ownsRow n0 Ty p.1.size vs xs.length cells→RowR c.S w p.1 xs cells→(∀ g,vs.ownBlock=some g→¬ c.S g) →
      (∀ i,id=some i→(∀ g,vs.ownBlock=some g→blk (c.m i)=some g)∧i<H.length∧aV (aF H i)=true)→(id=none→vs.ownBlock=none)→dX P n0 c w o a (kX H id p.1 p.2 xs ys):=by
        intro id xs Ty cells hown hr0 hnS hid hnone hg
        obtain ⟨hf1,hf2⟩:=aRR hg
        obtain ⟨A,cap,rfl,hle,hcell⟩:=hrow
        have hcl:=hM.obj.len
        have hH1:(jF H id).length=H.length:=by
         cases id with
         | none=>rfl
         | some i=>exact jJ H i _
        have hd:∀ k,aV (aF (jF H id) k)=true→aF (jF H id) k=aF H k∧(∀ g,blk (c.m k)=some g→some g≠vs.ownBlock):=by
         intro k hk
         cases id with
         | none=>exact ⟨rfl,fun g _=>by rw [hnone rfl]; simp⟩
         | some i =>
           obtain ⟨hv,hi1,hi2⟩:=hid i rfl
           have hk' : aV (aF (c7 H i aA.dead) k)=true:=hk
           rw [eJ] at hk'
           by_cases hki:k=i∧k<H.length
           · rw [if_pos hki] at hk'; simp [aV] at hk'
           · rw [if_neg hki] at hk'
             have hkl:k<H.length:=cU (fun h=>by rw [h] at hk'; simp [aV] at hk')
             have hne:k≠i:=fun h=>hki ⟨h,hkl⟩
             refine ⟨by show aF (c7 H i aA.dead) k=_; rw [eJ,if_neg hki],fun g hg h=>?_⟩
             exact hM.obj.dist k i g hkl hi1 hne hk' hi2 hg (hv g h.symm)
        generalize hH1e:jF H id=H1 at *
        have hv0:∀ g,vs.ownBlock=some g→n0≤g∧¬ c.S g:=fun g hg=>⟨(hown.lt g hg).1,hnS g hg⟩
        have cont:∀ (v' : Value) (w' : World) (T' : TypeId) (news:List Value),(execOp a.eval o).run P w = .ok (.value v') w' → w'.ownsRow n0 T' p.1.size v' (xs.length+ys.length) (cells ++ news)→w.grownBy w' vs.ownBlock→(v'.ownBlock=vs.ownBlock∨v'.ownBlock=some w.heap.size) →
         RowR c.S w p.1 ys news→MemSpec P n0 c w o a (.own H.length) (H1 ++ [.typed p.1 (xs ++ ys) false]):=by
         intro v' w' T' news hr ho' hgr hbl hrn
         have hsl:∃ A n k,v' = .slice A n k:=by
          rcases ho'.2 with ⟨h,_⟩ | ⟨g,cap,cur,h,_⟩
          · exact ⟨_,_,_,h⟩
          · exact ⟨_,_,_,h⟩
         have hS:∀ g,c.S g→w'.heap[g]? = w.heap[g]? := fun g hg' => hgr.block g (hM.stab g hg') fun h=>(hv0 g h.symm).2 hg'
         obtain ⟨m1,m2,m3⟩:=aBK hM (v:=v') (v0:=vs) (xs:=xs ++ ys) (cells:=cells ++ news) H1 hH1 hd hgr hv0 hbl hsl (by rw [List.length_append]; exact ho') ((hr0.append hown.1 hrn).mono (fun _ h=>h) hS)
         obtain ⟨A', n', k', hv'⟩:=hsl
         exact ⟨v', w', c.more v' p.1.size c.S,hr,Ctx.more_le c _ _ (fun _ h=>h),qM hM hv', m1,m2,m3⟩
        by_cases hp0:0<ys.length
        · obtain ⟨g,o', rfl,hi⟩:=hcell hp0
          obtain ⟨news,q1,q2,q3,q4⟩:=aRW hi
          obtain ⟨v', w', T', r1,r2,r3,r4⟩:=aGN (P:=P) w n0 t o.type et Ty i z p.1.size p.2 h1 h2 h3 h4 h7.symm h5 p.1.size_pos vs xs.length cells hown ⟨g,o', none⟩ ys.length cap news q1 q2 q3 hf1 hf2 hM.base
          exact cont v' w' T' news (hrun _ _ r1) r2 r3 r4 q4
        · have hy0:ys=[]:=List.eq_nil_of_length_eq_zero (by omega)
          subst hy0
          cases A with
          | none =>
            have r1:=aRV (P:=P) w n0 t o.type et Ty i p.1.size h1 h2 vs xs.length cells hown cap
            exact cont vs w Ty [] (hrun _ _ r1) (by simpa using hown) ⟨rfl,rfl,rfl,Nat.le_refl _,fun _ _ _=>rfl⟩ (.inl rfl) (fun i x hx=>by simp at hx)
          | some ad =>
            obtain ⟨v', w', T', r1,r2,r3,r4⟩:=aGN (P:=P) w n0 t o.type et Ty i z p.1.size p.2 h1 h2 h3 h4 h7.symm h5 p.1.size_pos vs xs.length cells hown ad 0 cap [] (by simp) (fun j u hu=>by simp at hu) (fun u hu=>by simp at hu) (by simpa using hf1) (by simpa using hf2) hM.base
            exact cont v' w' T' [] (hrun _ _ r1) (by simpa using r2) r3 r4 (fun i x hx=>by simp at hx)
     unfold aAN
     split
     · cases hs
       exact fin none [] 0 [] (World.ownsRow_nil w n0 0 p.1.size) (fun i x hx=>by simp at hx) (fun g hg=>by simp [Value.ownBlock] at hg) (fun i hi=>by simp at hi) (fun _=>rfl)
     · rename_i id
       split
       · rename_i e' l hobj
         split
         · rename_i l' hl'
           obtain ⟨he,hr⟩:=iT hl'
           have hob:=hM.obj.obj id (cU (by rw [hobj]; simp))
           rw [hobj] at hob
           obtain ⟨hz,⟨Ty,cells,hown,hrow2⟩,hst⟩:=hob
           have hv:=aRY hs
           subst hv
           have hlt:=cU (H:=H) (id:=id) (by rw [hobj]; simp)
           obtain ⟨p1,p2⟩:=p
           simp only at he
           subst he
           subst hr
           refine fin (some id) _ Ty cells hown hrow2 (fun g hg=>(hst g (m9 _ g hg)).2 rfl) (fun i hi=>?_) (fun h=>by simp at h)
           simp only [Option.some.injEq] at hi
           subst hi
           exact ⟨fun g hg=>m9 _ g hg,hlt,by rw [hobj]; rfl⟩
         · trivial
       · trivial
     · rename_i id off n
       cases hb:Nat.beq off 0 with
       | false=>trivial
       | true =>
         have h0:=Nat.eq_of_beq_eq_true hb
         subst h0
         simp only [cond_true]
         split
         · rename_i e' l hobj
           split
           · rename_i l' hl'
             obtain ⟨he,hr⟩:=iT hl'
             have hob:=hM.obj.obj id (cU (by rw [hobj]; simp))
             rw [hobj] at hob
             obtain ⟨hz,⟨Ty,cells,hown,hrow2⟩,hst⟩:=hob
             have hlt:=cU (H:=H) (id:=id) (by rw [hobj]; simp)
             obtain ⟨p1,p2⟩:=p
             simp only at he
             subst he
             subst hr
             cases hs with
             | win hb' hm q1 q2 q3 q4 =>
               obtain ⟨rfl,rfl⟩:=q4 rfl
               rw [hm] at hown hst
               have hol:=aRX hown
               simp only [Nat.zero_add] at q1
               have ho2:=aGP hown (m:=n) (by omega)
               have htl:(List.take n l').length=n:=by rw [List.length_take]; omega
               refine fin (some id) (l'.take n) Ty (cells.take (n * e'.size)) (by rw [htl]; exact ho2) (fun i x hx=>?_) (fun g hg=>(hst g (aGO hg)).2 rfl) (fun i hi=>?_) (fun h=>by simp at h)
               · have hi:i<n:=by have:=(List.getElem?_eq_some_iff.1 hx).1; omega
                 rw [List.getElem?_take,if_pos hi] at hx
                 obtain ⟨vs', w1,w2⟩:=hrow2 i x hx
                 refine ⟨vs', w1,fun j u hu=>?_⟩
                 have hj:j<e'.size:=by rw [← w1.length]; exact (List.getElem?_eq_some_iff.1 hu).1
                 have:(i+1) * e'.size≤n * e'.size:=Nat.mul_le_mul_right _ (by omega)
                 rw [Nat.add_mul] at this
                 show (List.take (n * e'.size) cells)[i * e'.size+j]? = some u
                 rw [List.getElem?_take,if_pos (by omega)]
                 exact w2 j u hu
               · simp only [Option.some.injEq] at hi
                 subst hi
                 exact ⟨fun g hg=>by rw [hm]; exact aGO hg,hlt,by rw [hobj]; rfl⟩
           · trivial
         · trivial
     · trivial
   · trivial
 · trivial
end
end
end Go.Proofs.YtehakimmioclkaaGreatDoor.Mach
end
