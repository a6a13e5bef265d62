/- A symbolic executor of the model's code: values, local memory, operations. Definitions alone. -/
import Derived.Calls
import Derived.Laws.Externs
import Derived.Orders
namespace Go.Proofs.Ytejcniaepjahbaa.Mach
open Go
noncomputable section

/-! ### types of cells -/
mutual
inductive CTy | int (k : IntKind) | bool | str | slice (e : ETy)
inductive ETy | one (t : CTy) | more (t : CTy) (e : ETy)
end
mutual
def CTy.D : CTy → Type
  | .int _ => Int | .bool => Bool | .str => ByteArray | .slice e => List e.D
def ETy.D : ETy → Type
  | .one t => t.D | .more t e => t.D × e.D
end
mutual
def CTy.beq : CTy → CTy → Bool
  | .int k, .int k' => decide (k = k')
  | .bool, .bool => true
  | .str, .str => true
  | .slice e, .slice e' => ETy.beq e e'
  | _, _ => false
def ETy.beq : ETy → ETy → Bool
  | .one t, .one t' => CTy.beq t t'
  | .more t e, .more t' e' => CTy.beq t t' && ETy.beq e e'
  | _, _ => false
end
mutual
theorem CTy.eq_of_beq : ∀ {t t' : CTy}, CTy.beq t t' = true → t = t'
  | .int k, .int k', h => by simp only [CTy.beq, decide_eq_true_eq] at h; rw [h]
  | .bool, .bool, _ => rfl
  | .str, .str, _ => rfl
  | .slice e, .slice e', h => by rw [ETy.eq_of_beq (t := e) (t' := e') (by simpa [CTy.beq] using h)]
  | .int _, .bool, h | .int _, .str, h | .int _, .slice _, h | .bool, .int _, h | .bool, .str, h | .bool, .slice _, h
  | .str, .int _, h | .str, .bool, h | .str, .slice _, h | .slice _, .int _, h | .slice _, .bool, h | .slice _, .str, h => by simp [CTy.beq] at h
theorem ETy.eq_of_beq : ∀ {t t' : ETy}, ETy.beq t t' = true → t = t'
  | .one t, .one t', h => by rw [CTy.eq_of_beq (t := t) (t' := t') (by simpa [ETy.beq] using h)]
  | .more t e, .more t' e', h => by
    simp only [ETy.beq, Bool.and_eq_true] at h
    rw [CTy.eq_of_beq h.1, ETy.eq_of_beq h.2]
  | .one _, .more _ _, h | .more _ _, .one _, h => by simp [ETy.beq] at h
end
mutual
def CTy.dflt : (t : CTy) → t.D
  | .int _ => (0 : Int) | .bool => false | .str => ByteArray.empty | .slice _ => []
def ETy.dflt : (t : ETy) → t.D
  | .one t => t.dflt | .more t e => (t.dflt, e.dflt)
end
def ETy.size : ETy → Nat
  | .one _ => 1 | .more _ e => e.size + 1
def castRow (e e' : ETy) (l : List e'.D) : Option (List e.D) := if h : ETy.beq e' e = true then some (ETy.eq_of_beq h ▸ l) else none

/-! ### values and objects -/
inductive AV : Type
  | undef
  | int (k : IntKind) (n : Int)
  | bool (b : Bool)
  | str (s : ByteArray)
  | imm (e : ETy) (l : List e.D)          -- a slice that is only read
  | own (id : Nat)                        -- the whole slice of a local array
  | win (id : Nat) (off len : Nat)        -- a part of one
  | nils                                  -- the nil slice
  | ptr (id off : Nat)                    -- a cell of a local variable
  | elt (id : Nat) (i : Int) (off : Nat)  -- a cell of an element of a local array
  | parr (id : Nat)                       -- a local variable that is an array
  | adr (cs : List AV)                    -- cells that are only read, from here on
  | nilp
  | agg (cs : List AV)
  | tup (vs : List AV)
  | fn (f : FuncId) (caps : List AV)
  | raw (v : Value)
inductive HObj : Type
  | typed (e : ETy) (xs : List e.D) (fz : Bool)
  | box (cs : List AV)
  | dead
/-- slots, as a tree: slot 0 at the root, the odd ones to the left -/
inductive Tree0 : Type
  | leaf
  | node (x : AV) (a b : Tree0)
structure Env where
  lim : Nat
  t : Tree0
structure St where
  env : Env
  H : List HObj
/-- (by the recursors themselves: the kernel reduces these far quicker than what 'def' by patterns makes) -/
def getT (t : Tree0) : Nat → AV := Tree0.rec (fun _ => AV.undef) (fun x _ _ iha ihb n => Nat.rec x (fun m _ => Nat.rec (iha (m / 2)) (fun _ _ => ihb (m / 2)) (m % 2)) n) t
def setT (t : Tree0) : Nat → AV → Tree0 := Tree0.rec (fun _ _ => .leaf) (fun x a b iha ihb n v => Nat.rec (.node v a b) (fun m _ => Nat.rec (.node x (iha (m / 2) v) b) (fun _ _ => .node x a (ihb (m / 2) v)) (m % 2)) n) t
def emptyT (d : Nat) : Tree0 := Nat.rec .leaf (fun _ t => .node .undef t t) d
def getE (e : Env) (i : Nat) : AV := bif Nat.blt i e.lim then getT e.t i else .undef
def setE (e : Env) (i : Nat) (v : AV) : Env := bif Nat.blt i e.lim then ⟨e.lim, setT e.t i v⟩ else e
def nth {α : Type} (l : List α) : Nat → Option α := List.rec (fun _ => none) (fun x _ ih n => Nat.rec (some x) (fun m _ => ih m) n) l
def setAt {α : Type} (l : List α) : Nat → α → List α := List.rec (fun _ _ => []) (fun x r ih n v => Nat.rec (v :: r) (fun m _ => x :: ih m v) n) l
def getAt (l : List AV) : Nat → AV := List.rec (fun _ => AV.undef) (fun x _ ih n => Nat.rec x (fun m _ => ih m) n) l
def objAt (l : List HObj) : Nat → HObj := List.rec (fun _ => HObj.dead) (fun x _ ih n => Nat.rec x (fun m _ => ih m) n) l
def cellAV : (t : CTy) → t.D → AV
  | .int k, n => .int k n
  | .bool, b => .bool b
  | .str, s => .str s
  | .slice e, l => .imm e l
def elemCells : (e : ETy) → e.D → List AV
  | .one t, x => [cellAV t x]
  | .more t e, x => cellAV t x.1 :: elemCells e x.2
def rowOf (H : List HObj) (e : ETy) : AV → Option (List e.D)
  | .imm e' l => castRow e e' l
  | .own id => match objAt H id with | .typed e' xs _ => castRow e e' xs | _ => none
  | .win id off len => match objAt H id with | .typed e' xs _ => (castRow e e' xs).map fun l => (l.drop off).take len | _ => none
  | .nils => some []
  | _ => none
def asI (k : IntKind) : AV → Option Int
  | .int k' n => if decide (k = k') = true then some n else none
  | _ => none
def asB : AV → Option Bool
  | .bool b => some b
  | _ => none
def asS : AV → Option ByteArray
  | .str s => some s
  | _ => none
def asCell (H : List HObj) (t : CTy) (x : AV) : Option t.D := match t with
  | .int k => asI k x
  | .bool => asB x
  | .str => asS x
  | .slice e => rowOf H e x
def asElem (H : List HObj) : (e : ETy) → List AV → Option e.D
  | .one t, cs => (match cs with | x :: r => (match r with | [] => asCell H t x | _ :: _ => none) | [] => none)
  | .more t e, cs => (match cs with | x :: r => (match asCell H t x, asElem H e r with | some a, some b => some (a, b) | _, _ => none) | [] => none)
/-- the local arrays that a value shows -/
def show1 : AV → List Nat
  | .own id => [id]
  | .win id _ _ => [id]
  | _ => []
def showL (cs : List AV) : List Nat := List.rec [] (fun x _ ih => show1 x ++ ih) cs
def freeze1 (H : List HObj) (id : Nat) : List HObj := match objAt H id with | .typed e xs _ => setAt H id (.typed e xs true) | _ => H
def freezeAt (H : List HObj) (l : List Nat) : List HObj := List.rec (fun H => H) (fun id _ ih H => ih (freeze1 H id)) l H

/-! ### types and functions of the program, as a table -/
def cellOf (P : Program) (d : Nat) (t : TypeId) : Option ETy :=
  match d with
  | 0 => none
  | d + 1 => match P.underlying t with
    | some (.int k) => some (.one (.int k))
    | some .bool => some (.one .bool)
    | some .string => some (.one .str)
    | some (.slice e) => (cellOf P d e).map fun e => .one (.slice e)
    | some (.struct fs) => fs.toList.foldr (fun f (acc : Option (Option ETy)) => match acc, cellOf P d f.type with
        | some none, some e => some (some e)
        | some (some r), some (.one t) => some (some (.more t r))
        | some (some r), some (.more t (.one u)) => some (some (.more t (.more u r)))
        | some (some r), some (.more t (.more u (.one v))) => some (some (.more t (.more u (.more v r))))
        | _, _ => none) (some none) |>.join
    | _ => none
def ofVal : Nat → Value → AV
  | 0, _ => .undef
  | d + 1, v => match v with
    | .int k n => .int k n
    | .bool b => .bool b
    | .string s => .str s
    | .slice none 0 0 => .nils
    | .pointer none => .nilp
    | .agg cs => .agg (cs.toList.map (ofVal d))
    | .tuple cs => .tup (cs.toList.map (ofVal d))
    | .func (.func f) ⟨[]⟩ ⟨[]⟩ => .fn f []
    | v => .raw v
/-- are these the cells of 'dflt'? -/
def zeroCell : CTy → Value → Bool
  | .int k, .int k' n => decide (k = k') && decide (n = 0)
  | .bool, .bool b => !b
  | .str, .string s => decide (s.size = 0)
  | .slice _, .slice none 0 0 => true
  | _, _ => false
def zeroRow : ETy → List Value → Bool
  | .one t, [v] => zeroCell t v
  | .more t e, v :: r => zeroCell t v && zeroRow e r
  | _, _ => false
def zeroOk (P : Program) (e : TypeId) : Bool := match cellOf P 8 e, P.info? e with
  | some et, some i => (match i.zero with | some z => zeroRow et z.cells.toList && decide (z.cells.size = i.size) | none => false)
  | _, _ => false
def zeroRows (e : ETy) : Nat → List Value → Bool
  | 0, l => l.isEmpty
  | n + 1, l => zeroRow e (l.take e.size) && zeroRows e n (l.drop e.size)
/-- an array's zero is its elements' -/
def arrOk (P : Program) (t : TypeId) (n : Nat) (e : TypeId) : Bool := match cellOf P 8 e, P.info? t, P.info? e with
  | some et, some i, some j => (match i.zero with | some z => zeroRows et n z.cells.toList && decide (j.size = et.size) && decide (n ≤ 9223372036854775807) | none => false)
  | _, _, _ => false
/-- what the executor knows of a type -/
inductive Kind' | int (k : IntKind) | str | bytes | bool | slice | pointer | arr | other
structure TyT where
  okay : Bool                -- the type is known
  agg : Bool
  size : Nat
  kind : Kind'
  elem : Option ETy          -- a slice's elements
  bytes : Nat                -- their size in memory
  esize : Nat                -- their cells (of an array's, too)
  zero : Option (List AV)
  fields : List (Nat × TypeId)
  arr : Option (Nat × ETy)
  fok : Bool                 -- a struct, and its fields' types are known
  ezok : Bool                -- the elements' zero is the one of 'dflt'
structure FnT where
  body : Code
  n : Nat
  res : List ResultVar
structure Tab where
  ty : List (Nat × TyT)
  fn : List (Nat × FnT)
  ext : List (Nat × Nat)     -- functions of the library without a body: 1 is bytealg.IndexByteString
def find {α : Type} (l : List (Nat × α)) : Nat → Option α := List.rec (fun _ => none) (fun p _ ih n => Bool.rec (ih n) (some p.2) (Nat.beq p.1 n)) l
def tyOf (P : Program) (t : TypeId) : TyT :=
  { okay := (P.underlying t).isSome && (P.info? t).isSome
    agg := match P.underlying t with | some (.struct _) => true | some (.array _ _) => true | _ => false
    size := P.cellsOf t
    kind := match P.underlying t with
      | some (.int k) => .int k
      | some .string => .str
      | some (.slice e) => (match P.underlying e with | some (.int .u8) => .bytes | _ => .slice)
      | some .bool => .bool
      | some (.pointer _) => .pointer
      | some (.array _ _) => .arr
      | _ => .other
    elem := match P.underlying t with | some (.slice e) => cellOf P 8 e | _ => none
    bytes := match P.underlying t with | some (.slice e) => P.bytesOf e | _ => 0
    esize := match P.underlying t with | some (.slice e) => P.cellsOf e | some (.array _ e) => P.cellsOf e | _ => 0
    zero := match (P.info? t).bind (·.zero) with
      | some (.agg cs) => some (cs.toList.map (ofVal 3))
      | some v => some [ofVal 3 v]
      | none => none
    fields := match P.underlying t with | some (.struct fs) => fs.toList.map fun f => (f.offset, f.type) | _ => []
    arr := match P.underlying t with | some (.array n e) => (cellOf P 8 e).map fun e => (n, e) | _ => none
    fok := match P.underlying t with | some (.struct fs) => fs.toList.all fun f => (P.info? f.type).isSome | _ => false
    ezok := match P.underlying t with
      | some (.slice e) => zeroOk P e
      | some (.array n e) => zeroOk P e && arrOk P t n e
      | _ => false }
def fnOf (P : Program) (f : FuncId) : Option FnT := match P.funcs[f]? with
  | some fn => (match fn.body with | some c => bif fn.name == "runtime.NumGoroutine" then none else some ⟨c, fn.ntmps, fn.results.toList⟩ | none => none)
  | none => none
/-- the table is the program's -/
structure TabOk (P : Program) (T : Tab) : Prop where
  ty : ∀ t x, find T.ty t = some x → x = tyOf P t
  fn : ∀ f x, find T.fn f = some x → fnOf P f = some x
  ext : ∀ f, find T.ext f = some 1 → ∃ fn, P.funcs[f]? = some fn ∧ (fn.name == "runtime.NumGoroutine") = false ∧ fn.body.isNone = true ∧ Extern.findNext fn = none ∧ Extern.find fn = some Extern.BytealgIndexByte.indexByte
/-- a slice's elements, if their zero is as it should be, and their bytes -/
def rowTy (x : TyT) : Option (ETy × Nat) := bif x.ezok then (match x.elem with | some e => some (e, x.bytes) | none => none) else none
def Tab.row (T : Tab) (t : TypeId) : Option (ETy × Nat) := match find T.ty t with | some x => rowTy x | none => none
def Tab.alen (T : Tab) (t : TypeId) : Nat := match find T.ty t with | some x => (match x.arr with | some p => p.1 | none => 0) | none => 0
def Tab.size (T : Tab) (t : TypeId) : Nat := match find T.ty t with | some x => x.size | none => 0
def Tab.esize (T : Tab) (t : TypeId) : Nat := match find T.ty t with | some x => x.esize | none => 0
def Tab.kind (T : Tab) (t : TypeId) : Kind' := match find T.ty t with | some x => x.kind | none => .other
def cellsOf : AV → List AV
  | .agg cs => cs
  | v => [v]
/-- one cell's value -/
def isCell : AV → Bool
  | .undef => false
  | .agg _ => false
  | .tup _ => false
  | .raw (.agg _) => false
  | .raw (.tuple _) => false
  | _ => true
def allCells (l : List AV) : Bool := List.rec true (fun x _ ih => bif isCell x then ih else false) l
/-- what may be laid into memory -/
def isVal : AV → Bool
  | .agg cs => allCells cs
  | v => isCell v
def patch : List AV → Nat → List AV → List AV
  | cs, _, [] => cs
  | cs, i, v :: r => patch (setAt cs i v) (i + 1) r
/-- a value of a type, out of the cells from its first one on -/
def wholeX (x : TyT) (cs : List AV) : Option AV := bif x.agg then (bif Nat.ble x.size cs.length then some (.agg (cs.take x.size)) else none) else (match cs with | y :: _ => some y | [] => none)
def whole (T : Tab) (t : TypeId) (cs : List AV) : Option AV := match find T.ty t with
  | some x => bif x.okay then wholeX x cs else none
  | none => none

/-! ### operations -/
/-- what an operation comes to: a test that must hold, a value, the memory; or a call -/
inductive OpR
  | fail
  | ok (g : Bool) (v : AV) (H : List HObj)
  | call (f : FuncId) (args : List AV)
def evalO (env : Env) : Operand → AV
  | .tmp t => getE env t
  | .const v => ofVal 3 v
  | .func f => .fn f []
  | .global _ => .undef
def intOp (op : BinOp) (k : IntKind) (a b : Int) : Bool × AV :=
  match op with
  | .add => (true, .int k (k.wrap (a + b)))
  | .sub => (true, .int k (k.wrap (a - b)))
  | .mul => (true, .int k (k.wrap (a * b)))
  | .quo => (!decide (b = 0), .int k (k.wrap (a.tdiv b)))
  | .rem => (!decide (b = 0), .int k (a.tmod b))
  | .lss => (true, .bool (decide (a < b)))
  | .leq => (true, .bool (decide (a ≤ b)))
  | .gtr => (true, .bool (decide (a > b)))
  | .geq => (true, .bool (decide (a ≥ b)))
  | .eql => (true, .bool (decide (a = b)))
  | .neq => (true, .bool (!decide (a = b)))
  | .shl => (decide (0 ≤ b), .int k (k.wrap (a * 2 ^ (min b.toNat k.bits))))
  | .shr => (decide (0 ≤ b), .int k (a.fdiv (2 ^ (min b.toNat k.bits))))
  | .and => (true, .int k (k.wrap ((BitVec.ofInt k.bits a &&& BitVec.ofInt k.bits b).toNat : Int)))
  | .or => (true, .int k (k.wrap ((BitVec.ofInt k.bits a ||| BitVec.ofInt k.bits b).toNat : Int)))
  | .xor => (true, .int k (k.wrap ((BitVec.ofInt k.bits a ^^^ BitVec.ofInt k.bits b).toNat : Int)))
  | .andNot => (true, .int k (k.wrap ((BitVec.ofInt k.bits a &&& ~~~BitVec.ofInt k.bits b).toNat : Int)))
def strOp (op : BinOp) (x y : ByteArray) : Bool × AV :=
  match op with
  | .add => (decide (x.size + y.size ≤ 9223372036854775807), .str (x ++ y))
  | .eql => (true, .bool (x.toList == y.toList))
  | .neq => (true, .bool (!(x.toList == y.toList)))
  | .lss => (true, .bool (Op.bytesLess x.toList y.toList))
  | .leq => (true, .bool (Op.bytesLess x.toList y.toList || x.toList == y.toList))
  | .gtr => (true, .bool (!(Op.bytesLess x.toList y.toList || x.toList == y.toList)))
  | .geq => (true, .bool (!Op.bytesLess x.toList y.toList))
  | _ => (false, .undef)
def lenOf (H : List HObj) : AV → Option Nat
  | .imm _ l => some l.length
  | .own id => match objAt H id with | .typed _ xs _ => some xs.length | _ => none
  | .win _ _ n => some n
  | .nils => some 0
  | .str s => some s.size
  | .parr id => match objAt H id with | .typed _ xs _ => some xs.length | _ => none
  | _ => none
def isRowV : AV → Bool
  | .imm _ _ => true
  | .own _ => true
  | .win _ _ _ => true
  | .nils => true
  | _ => false
/-- a slice that has elements is not nil -/
def nilCmp (kd : Kind') (H : List HObj) (op : BinOp) (x y : AV) : OpR := match y with
  | .nils => bif isRowV x then (match lenOf H x with
    | some n => (match kd with
      | .slice => (match op with | .eql => .ok (Nat.blt 0 n) (.bool false) H | .neq => .ok (Nat.blt 0 n) (.bool true) H | _ => .fail)
      | .bytes => (match op with | .eql => .ok (Nat.blt 0 n) (.bool false) H | .neq => .ok (Nat.blt 0 n) (.bool true) H | _ => .fail)
      | _ => .fail)
    | none => .fail) else .fail
  | _ => .fail
def binR (kd : Kind') (H : List HObj) (op : BinOp) : AV → AV → OpR
  | .int k a, .int k' b => match op with
    | .shl => let r := intOp op k a b; .ok r.1 r.2 H
    | .shr => let r := intOp op k a b; .ok r.1 r.2 H
    | _ => if decide (k = k') = true then (let r := intOp op k a b; .ok r.1 r.2 H) else .fail
  | .str a, .str b => let r := strOp op a b; .ok r.1 r.2 H
  | .bool a, .bool b => match kd, op with
    | .bool, .eql => .ok true (.bool (a == b)) H
    | .bool, .neq => .ok true (.bool (!(a == b))) H
    | _, _ => .fail
  | .nils, .nils => match kd, op with
    | .slice, .eql => .ok true (.bool true) H
    | .slice, .neq => .ok true (.bool false) H
    | .bytes, .eql => .ok true (.bool true) H
    | .bytes, .neq => .ok true (.bool false) H
    | _, _ => .fail
  | .nilp, .nilp => match kd, op with | .pointer, .eql => .ok true (.bool true) H | .pointer, .neq => .ok true (.bool false) H | _, _ => .fail
  | .ptr _ _, .nilp => match kd, op with | .pointer, .eql => .ok true (.bool false) H | .pointer, .neq => .ok true (.bool true) H | _, _ => .fail
  | x, y => nilCmp kd H op x y
def bytesL (s : ByteArray) : List Int := s.data.toList.map fun b => (b.toNat : Int)
def strL (l : List Int) : ByteArray := ⟨(l.map fun n => UInt8.ofNat n.toNat).toArray⟩
def bnd (d : Int) : Option AV → Option Int
  | none => some d
  | some (.int _ n) => some n
  | _ => none
/-- are a slice's elements of so many cells? -/
def szOk (H : List HObj) (z : Nat) : AV → Bool
  | .imm e _ => Nat.beq e.size z
  | .own id => match objAt H id with | .typed e _ _ => Nat.beq e.size z | _ => false
  | .win id _ _ => match objAt H id with | .typed e _ _ => Nat.beq e.size z | _ => false
  | .parr id => match objAt H id with | .typed e _ _ => Nat.beq e.size z | _ => false
  | .nils => Nat.blt 0 z
  | _ => false
def cutStr (H : List HObj) (l h : Int) : AV → OpR
  | .str s => .ok (decide (0 ≤ l) && decide (l ≤ h) && decide (h ≤ (s.size : Int))) (.str (s.extract l.toNat h.toNat)) H
  | _ => .fail
def cutRow (H : List HObj) (n : Nat) (l h : Int) : AV → OpR
  | .imm e r => .ok (decide (0 ≤ l) && decide (l ≤ h) && decide (h ≤ (n : Int))) (.imm e ((r.take h.toNat).drop l.toNat)) H
  | .own id => .ok (decide (0 ≤ l) && decide (l ≤ h) && decide (h ≤ (n : Int))) (.win id l.toNat (h.toNat - l.toNat)) H
  | .win id off _ => .ok (decide (0 ≤ l) && decide (l ≤ h) && decide (h ≤ (n : Int))) (.win id (off + l.toNat) (h.toNat - l.toNat)) H
  | .nils => .ok (decide (0 ≤ l) && decide (l ≤ h) && decide (h ≤ (n : Int))) .nils H
  | _ => .fail
def cutArr (H : List HObj) (n : Nat) (l h : Int) : AV → OpR
  | .parr id => .ok (decide (0 ≤ l) && decide (l ≤ h) && decide (h ≤ (n : Int))) (.win id l.toNat (h.toNat - l.toNat)) H
  | _ => .fail
def sliceN (kd : Kind') (z al : Nat) (H : List HObj) (x : AV) (n : Nat) (l h : Int) : OpR := match kd with
  | .str => cutStr H l h x
  | .slice => bif szOk H z x then cutRow H n l h x else .fail
  | .bytes => bif szOk H z x then cutRow H n l h x else .fail
  | .arr => bif szOk H z x && (Nat.beq al n && Nat.blt 0 n) then cutArr H n l h x else .fail
  | _ => .fail
def sliceR (kd : Kind') (z al : Nat) (H : List HObj) (x : AV) (lo hi : Option AV) : OpR := match lenOf H x with
  | none => .fail
  | some n => match bnd 0 lo, bnd n hi with
    | some l, some h => sliceN kd z al H x n l h
    | _, _ => .fail
/-- may so many elements of so many bytes be laid? -/
def fits (n b : Nat) : Bool := bif Nat.ble n 9223372036854775807 then Nat.ble (n * b) 140737488355328 else false
def killAt (H : List HObj) (id : Option Nat) : List HObj := match id with | some i => setAt H i .dead | none => H
def appendTo (H : List HObj) (id : Option Nat) (e : ETy) (b : Nat) (xs ys : List e.D) : OpR :=
  .ok (fits (xs.length + ys.length) b) (.own H.length) (killAt H id ++ [.typed e (xs ++ ys) false])
def appendN (H : List HObj) (e : ETy) (b : Nat) (s : AV) (ys : List e.D) : OpR := match s with
  | .nils => appendTo H none e b [] ys
  | .own id => (match objAt H id with
    | .typed e' l false => (match castRow e e' l with | some l => appendTo H (some id) e b l ys | none => .fail)
    | _ => .fail)
  | _ => .fail
def appendR (T : Tab) (H : List HObj) (t : TypeId) (s x : AV) : OpR := match T.row t with
  | some p => (match rowOf H p.1 x with | some ys => appendN H p.1 p.2 s ys | none => .fail)
  | none => .fail
def lenRow (H : List HObj) (x : AV) : OpR := bif isRowV x then (match lenOf H x with | some n => .ok true (.int .i64 (n : Int)) H | none => .fail) else .fail
def lenStr (H : List HObj) : AV → OpR
  | .str s => .ok true (.int .i64 (s.size : Int)) H
  | _ => .fail
def lenR (kd : Kind') (H : List HObj) (x : AV) : OpR := match kd with
  | .str => lenStr H x
  | .slice => lenRow H x
  | .bytes => lenRow H x
  | _ => .fail
def lesser (H : List HObj) : AV → AV → OpR
  | .int k a, .int _ b => .ok true (.int k (if b < a then b else a)) H
  | _, _ => .fail
def greater (H : List HObj) : AV → AV → OpR
  | .int k a, .int _ b => .ok true (.int k (if b > a then b else a)) H
  | _, _ => .fail
def two (f : AV → AV → OpR) (xs : List AV) : OpR := match xs with
  | x :: r => (match r with | y :: q => (match q with | [] => f x y | _ => .fail) | [] => .fail)
  | [] => .fail
def one1 (f : AV → OpR) (xs : List AV) : OpR := match xs with
  | x :: r => (match r with | [] => f x | _ => .fail)
  | [] => .fail
def builtinR (T : Tab) (H : List HObj) (b : Builtin) (ts : List TypeId) (xs : List AV) : OpR :=
  match b with
  | .len => (match ts with | t :: _ => one1 (lenR (T.kind t) H) xs | [] => .fail)
  | .append => (match ts with | t :: r => (match r with | u :: q => (match q with | [] => bif Nat.beq t u then two (appendR T H t) xs else .fail | _ => .fail) | [] => .fail) | [] => .fail)
  | .max => two (greater H) xs
  | .min => two (lesser H) xs
  | _ => .fail
def okV (H : List HObj) (x : Option AV) : OpR := match x with
  | some v => .ok true v H
  | none => .fail
def loadR (T : Tab) (H : List HObj) (t : TypeId) : AV → OpR
  | .ptr id off => match objAt H id with | .box cs => okV H (whole T t (cs.drop off)) | _ => .fail
  | .elt id i off => match objAt H id with | .typed e xs _ => okV H (whole T t ((elemCells e (xs.getD i.toNat e.dflt)).drop off)) | _ => .fail
  | .adr cs => okV H (whole T t cs)
  | _ => .fail
/-- a value laid over cells, if it fits -/
def layIn (cs : List AV) (off : Nat) (new : List AV) (z : Nat) : Option (List AV) := bif Nat.blt 0 z && Nat.beq new.length z then (bif Nat.ble (off + new.length) cs.length then some (patch cs off new) else none) else none
def storeBox (H : List HObj) (id : Nat) (v : AV) (cs : Option (List AV)) : OpR := match cs with
  | some cs => .ok (isVal v) .undef (setAt H id (.box cs))
  | none => .fail
def storeElt (H : List HObj) (id : Nat) (e : ETy) (xs : List e.D) (i : Nat) (v : AV) (cs : Option (List AV)) : OpR := match cs with
  | some cs => (match asElem H e cs with
    | some y => bif (showL (cellsOf v)).contains id then .fail else .ok (isVal v) .undef (setAt (freezeAt H (showL (cellsOf v))) id (.typed e (xs.set i y) false))
    | none => .fail)
  | none => .fail
def storeR (T : Tab) (H : List HObj) (t : TypeId) (v : AV) : AV → OpR
  | .ptr id off => (match objAt H id with | .box cs => storeBox H id v (layIn cs off (cellsOf v) (T.size t)) | _ => .fail)
  | .elt id i off => (match objAt H id with
    | .typed e xs false => storeElt H id e xs i.toNat v (layIn (elemCells e (xs.getD i.toNat e.dflt)) off (cellsOf v) (T.size t))
    | _ => .fail)
  | _ => .fail
def indexN (H : List HObj) (x : AV) (i : Int) : OpR := match x with
  | .imm e l => .ok (decide (0 ≤ i) && decide (i < (l.length : Int))) (.adr (elemCells e (l.getD i.toNat e.dflt))) H
  | .own id => match objAt H id with | .typed _ xs _ => .ok (decide (0 ≤ i) && decide (i < (xs.length : Int))) (.elt id i 0) H | _ => .fail
  | .win id off n => .ok (decide (0 ≤ i) && decide (i < (n : Int))) (.elt id (off + i) 0) H
  | _ => .fail
def indexA (al : Nat) (H : List HObj) (x : AV) (i : Int) : OpR := match x with
  | .parr id => (match objAt H id with | .typed _ xs _ => .ok (Nat.beq al xs.length && (decide (0 ≤ i) && decide (i < (xs.length : Int)))) (.elt id i 0) H | _ => .fail)
  | _ => .fail
def indexR (kd : Kind') (z al : Nat) (H : List HObj) (x i : AV) : OpR := match i with
  | .int _ i => match kd with
    | .slice => bif szOk H z x then indexN H x i else .fail
    | .bytes => bif szOk H z x then indexN H x i else .fail
    | .arr => bif szOk H z x then indexA al H x i else .fail
    | _ => .fail
  | _ => .fail
def bigTy (T : Tab) (p : Nat × TypeId) : Option (Nat × TypeId) := match find T.ty p.2 with
  | some x => bif Nat.blt 0 x.size then some p else none
  | none => none
def fieldOff (T : Tab) (s : TypeId) (f : Nat) : Option (Nat × TypeId) := match find T.ty s with
  | some x => (match nth x.fields f with | some p => bigTy T p | none => none)
  | none => none
def fillR (T : Tab) (fs : List (Nat × TypeId)) : List (Nat × AV) → List AV → Option (List AV)
  | [], cs => some cs
  | p :: r, cs => match nth fs p.1 with
    | some f => (match find T.ty f.2 with
      | some x => bif isVal p.2 then (bif Nat.beq (cellsOf p.2).length x.size then (bif Nat.ble (f.1 + (cellsOf p.2).length) cs.length then fillR T fs r (patch cs f.1 (cellsOf p.2)) else none) else none) else none
      | none => none)
    | none => none
def buildX (T : Tab) (H : List HObj) (x : TyT) (parts : List (Nat × AV)) : OpR := match x.zero with
  | some z => (match fillR T x.fields parts z with | some cs => .ok true (.agg cs) H | none => .fail)
  | none => .fail
def buildR (T : Tab) (H : List HObj) (t : TypeId) (parts : List (Nat × AV)) : OpR := match find T.ty t with
  | some x => bif x.fok then buildX T H x parts else .fail
  | none => .fail
/-- a literal's elements, in their order -/
def litL (H : List HObj) (e : ETy) : List (Nat × AV) → Nat → Option (List e.D)
  | [], _ => some []
  | p :: r, k => bif Nat.beq p.1 k then (bif isVal p.2 then (match asElem H e (cellsOf p.2) with
      | some x => (match litL H e r (k + 1) with | some l => some (x :: l) | none => none)
      | none => none) else none) else none
def showP (l : List (Nat × AV)) : List Nat := List.rec [] (fun x _ ih => showL (cellsOf x.2) ++ ih) l
def conv1 (T : Tab) (H : List HObj) (src dst : TypeId) (x : AV) : OpR :=
  match T.kind dst with
  | .int k => (match x with | .int _ n => .ok true (.int k (k.wrap n)) H | _ => .fail)
  | .str => (match x with
    | .int _ n => .ok true (.str (Utf8.encode n)) H
    | .str s => .ok true (.str s) H
    | x => (match T.kind src with
      | .bytes => (match rowOf H (.one (.int .u8)) x with | some l => .ok true (.str (strL l)) H | none => .fail)
      | _ => .fail))
  | .bytes => (match T.kind src, x with | .str, .str s => .ok (decide (s.size ≤ 9223372036854775807)) (.imm (.one (.int .u8)) (bytesL s)) H | _, _ => .fail)
  | _ => .fail
def convR (T : Tab) (H : List HObj) (src dst : TypeId) (x : AV) : OpR := match find T.ty src with
  | some y => bif y.okay then conv1 T H src dst x else .fail
  | none => .fail
def unR (H : List HObj) : UnOp → AV → OpR
  | .not, .bool b => .ok true (.bool (!b)) H
  | .neg, .int k n => .ok true (.int k (k.wrap (0 - n))) H
  | _, _ => .fail
def oIndexStr (kd : Kind') (H : List HObj) (x i : AV) : OpR := match kd, x, i with
  | .str, .str s, .int _ i => .ok (decide (0 ≤ i) && decide (i < (s.size : Int))) (.int .u8 (s.data.toList.getD i.toNat 0).toNat) H
  | _, _, _ => .fail
def oField (T : Tab) (H : List HObj) (t : TypeId) (x : AV) (f : Nat) : OpR := match x, fieldOff T t f with | .agg cs, some (o, u) => okV H (whole T u (cs.drop o)) | _, _ => .fail
def oFieldAddr (T : Tab) (H : List HObj) (t : TypeId) (x : AV) (f : Nat) : OpR := match x, fieldOff T t f with
  | .ptr id off, some (o, _) => .ok true (.ptr id (off + o)) H
  | .elt id i off, some (o, _) => (match objAt H id with | .typed e _ _ => .ok (Nat.blt (off + o) e.size) (.elt id i (off + o)) H | _ => .fail)
  | .adr cs, some (o, _) => .ok true (.adr (cs.drop o)) H
  | _, _ => .fail
def allocX (H : List HObj) (x : TyT) : OpR := match x.arr with
  | some p => bif x.ezok then .ok true (.parr H.length) (H ++ [.typed p.2 (List.replicate p.1 p.2.dflt) false]) else .fail
  | none => (match x.zero with | some z => .ok true (.ptr H.length 0) (H ++ [.box z]) | none => .fail)
def oAlloc (T : Tab) (H : List HObj) (t : TypeId) : OpR := match find T.ty t with
  | some x => allocX H x
  | none => .fail
def oBox (H : List HObj) (v : AV) : OpR := .ok (isVal v) (.ptr H.length 0) (H ++ [.box (cellsOf v)])
def buildRow (H : List HObj) (e : ETy) (n : Nat) (parts : List (Nat × AV)) : OpR := match litL H e parts 0 with
  | some l => .ok (bif Nat.beq l.length n then Nat.ble (n * e.size) 16777216 else false) (.own H.length) (freezeAt H (showP parts) ++ [.typed e l false])
  | none => .fail
def oBuildSlice (T : Tab) (H : List HObj) (t : TypeId) (n : Nat) (parts : List (Nat × AV)) : OpR := match T.row t with
  | some p => buildRow H p.1 n parts
  | none => .fail
def makeRow (H : List HObj) (e : ETy) (b : Nat) (n c : AV) : OpR := match n with
  | .int _ n => (match c with
    | .int _ c => .ok (decide (0 ≤ n) && decide (n ≤ c) && fits c.toNat b) (.own H.length) (H ++ [.typed e (List.replicate n.toNat e.dflt) false])
    | _ => .fail)
  | _ => .fail
def oMakeSlice (T : Tab) (H : List HObj) (t : TypeId) (n c : AV) : OpR := match T.row t with
  | some p => makeRow H p.1 p.2 n c
  | none => .fail
def oPick (H : List HObj) (c a b : AV) : OpR := match c with
  | .bool t => match a, b with
    | .bool x, .bool y => .ok true (.bool (bif t then x else y)) H
    | .int k x, .int k' y => if decide (k = k') = true then .ok true (.int k (bif t then x else y)) H else .fail
    | x, y => bif t then .ok true x H else .ok true y H
  | _ => .fail
def oNilCheck (H : List HObj) (x : AV) : OpR := match x with | .ptr i o => .ok true (.ptr i o) H | .parr i => .ok true (.parr i) H | .elt i j o => .ok true (.elt i j o) H | .adr cs => .ok true (.adr cs) H | _ => .fail
def oExtract (H : List HObj) (x : AV) (i : Nat) : OpR := match x with | .tup vs => .ok (Nat.blt i vs.length) (getAt vs i) H | _ => .fail
def indexByteR (H : List HObj) (x y : AV) : OpR := match x with
  | .str s => (match y with | .int k c => if decide (k = .u8) = true then .ok true (.int .i64 (firstIdx s c.toNat.toUInt8)) H else .fail | _ => .fail)
  | _ => .fail
def oCallV (T : Tab) (H : List HObj) (x : AV) (args : List AV) : OpR := match x with
  | .fn g caps => (match find T.ext g with
    | none => .call g (args ++ caps)
    | some k => bif Nat.beq k 1 then two (indexByteR H) (args ++ caps) else .fail)
  | _ => .fail
def oCall (T : Tab) (H : List HObj) (env : Env) (c : Callee) (args : List AV) (ts : List TypeId) : OpR := match c with
  | .builtin b => builtinR T H b ts args
  | .value f => oCallV T H (evalO env f) args
  | .invoke _ _ => .fail
def oMove (H : List HObj) (x : AV) : OpR := .ok true x H
def oMakeFunc (H : List HObj) (env : Env) (f : Fn) (first : List Operand) (caps : List Operand) : OpR := match f, first with
  | .func f, [] => .ok true (.fn f (caps.map (evalO env))) H
  | _, _ => .fail
def oSlice (T : Tab) (t : TypeId) (H : List HObj) (env : Env) (x : Operand) (lo hi mx : Option Operand) : OpR := match mx with
  | none => sliceR (T.kind t) (T.esize t) (T.alen t) H (evalO env x) (lo.map (evalO env)) (hi.map (evalO env))
  | some _ => .fail
def oParts (env : Env) (parts : Array (Nat × Operand)) : List (Nat × AV) := parts.toList.map fun p => (p.1, evalO env p.2)
/-- an operation: each kind by a function of its own (a small term for the kernel) -/
def opR (T : Tab) (H : List HObj) (env : Env) (o : Op) : OpR :=
  match o with
  | .move x => oMove H (evalO env x)
  | .assign x => oMove H (evalO env x)
  | .binOp op t x y _ => binR (T.kind t) H op (evalO env x) (evalO env y)
  | .unOp op _ x => unR H op (evalO env x)
  | .convert s d x => convR T H s d (evalO env x)
  | .indexAddr t x i => indexR (T.kind t) (T.esize t) (T.alen t) H (evalO env x) (evalO env i)
  | .index t x i => oIndexStr (T.kind t) H (evalO env x) (evalO env i)
  | .load t a => loadR T H t (evalO env a)
  | .store t a v => storeR T H t (evalO env v) (evalO env a)
  | .slice t x lo hi mx => oSlice T t H env x lo hi mx
  | .field t x f => oField T H t (evalO env x) f
  | .fieldAddr t x f => oFieldAddr T H t (evalO env x) f
  | .alloc t => oAlloc T H t
  | .box _ v => oBox H (evalO env v)
  | .build t parts => buildR T H t (oParts env parts)
  | .buildSlice t n parts => oBuildSlice T H t n (oParts env parts)
  | .makeSlice t n c => oMakeSlice T H t (evalO env n) (evalO env c)
  | .makeFunc f first caps => oMakeFunc H env f first.toList caps.toList
  | .extract t i => oExtract H (evalO env t) i
  | .pick c a b => oPick H (evalO env c) (evalO env a) (evalO env b)
  | .nilCheck x => oNilCheck H (evalO env x)
  | .call c => oCall T H env c.callee (c.args.toList.map (evalO env)) c.argTypes.toList
  | _ => .fail

/-! ### code -/
/-- the items behind a block's end -/
def dropTo (id : Nat) (l : List Item) : Option (List Item) := List.rec none (fun x k ih => match x with | .inBlock j => bif Nat.beq j id then some k else ih | _ => ih) l
def putD (env : Env) (d : Option Tmp) (v : AV) : Env := match d with
  | some d => setE env d v
  | none => env
/-- a test's outcome, written into its slot -/
def known (st : St) (c : Operand) (b : Bool) : St := match c with | .tmp t => ⟨setE st.env t (.bool b), st.H⟩ | _ => st
/-- calls: by the function, its arguments, the memory; must the local objects stay as they are? -/
abbrev CallK := FuncId → List AV → List HObj → Bool → (AV → List HObj → Prop) → Prop
def gate (g : Bool) (x : Prop) : Prop := bif g then x else False
/-- an operation and what follows -/
def opK (callK : CallK) (keep : Bool) (H : List HObj) (K : AV → List HObj → Prop) (r : OpR) : Prop := match r with
  | .fail => False
  | .ok g v H => gate g (K v H)
  | .call f args => callK f args H keep K
/-- a test's two ways -/
def way (env : Env) (d : Tmp) (want : Bool) (go skip : Env → Prop) (x : AV) : Prop := match x with
  | .bool b => match want with
    | true => bif b then go (setE env d (.bool true)) else skip (setE env d (.bool false))
    | false => bif b then skip (setE env d (.bool true)) else go (setE env d (.bool false))
  | .tup _ => skip env
  | _ => False
def guarded2 (env : Env) (want : Bool) (go skip : Env → Prop) (o : Option Oper) : Prop := match o with
  | some o => (match o.dst with | some d => way env d want go skip (getE env d) | none => False)
  | none => False
def guarded (all : List Oper) (env : Env) (g : Option (Nat × Bool)) (go skip : Env → Prop) : Prop := match g with
  | none => go env
  | some p => guarded2 env p.2 go skip (nth all p.1)
/-- the operations of a region, in their order -/
def runOps (T : Tab) (callK : CallK) (all : List Oper) (K : St → Prop) (l : List Oper) : Env → List HObj → Prop :=
  List.rec (fun env H => K ⟨env, H⟩) (fun o _ ih env H => guarded all env o.guard
      (fun env => opK callK false H (fun v H => ih (putD env o.dst v) H) (opR T H env o.op))
      (fun env => ih (putD env o.dst (.tup [])) H)) l
def resOf (T : Tab) (st : St) : ResultVar → Option AV
  | .tmp t => some (getE st.env t)
  | .cell a t => match loadR T st.H t (getE st.env a) with | .ok true v _ => some v | _ => none
def resList (T : Tab) (st : St) : List ResultVar → Option (List AV)
  | [] => some []
  | r :: rs => match resOf T st r, resList T st rs with
    | some v, some vs => some (v :: vs)
    | _, _ => none
/-- a call's result, out of the slots -/
def finK (T : Tab) (rs : List ResultVar) (K : AV → List HObj → Prop) (st : St) : Prop := match resList T st rs with
  | none => False
  | some vs => match vs with
    | [v] => K v st.H
    | vs => K (.tup vs) st.H
def condK (st : St) (c : Operand) (x y : St → Prop) (v : AV) : Prop := match v with
  | .bool b => bif b then x (known st c true) else y (known st c false)
  | _ => False
def exitK (go : List Item → St → Prop) (st : St) (k : Option (List Item)) : Prop := match k with
  | some k => go k st
  | none => False
/-! an order that is not told: all orders come to the same -/
/-- an operation that changes no local object -/
def still : Op → Bool
  | .move _ => true
  | .assign _ => true
  | .binOp _ _ _ _ _ => true
  | .unOp _ _ _ => true
  | .convert _ _ _ => true
  | .indexAddr _ _ _ => true
  | .index _ _ _ => true
  | .load _ _ => true
  | .slice _ _ _ _ _ => true
  | .field _ _ _ => true
  | .fieldAddr _ _ _ => true
  | .build _ _ => true
  | .makeFunc _ _ _ => true
  | .extract _ _ => true
  | .pick _ _ _ => true
  | .nilCheck _ => true
  | .call c => (match c.callee with | .builtin .len => true | _ => false)
  | _ => false
/-- an operation that leaves the objects that were there -/
def adds : Op → Bool
  | .alloc _ => true
  | .box _ _ => true
  | .makeSlice _ _ _ => true
  | .call c => (match c.callee with | .value _ => true | _ => false)
  | _ => false
/-- an operation that writes -/
def storesTo : Op → Option Operand
  | .store _ a _ => some a
  | _ => none
/-- may what is written at the address 'tgt' be what the address x shows? -/
def meets (tgt x : AV) : Bool := match tgt with
  | .elt _ _ _ => (match x with | .elt _ _ _ => true | _ => false)
  | .ptr j _ => (match x with | .ptr i _ => Nat.beq i j | _ => false)
  | _ => false
def noRow : AV → Bool
  | .int _ _ => true
  | .str _ => true
  | _ => false
/-- may an operation see what is written there? -/
def touches (tgt : AV) (env : Env) : Op → Bool
  | .load _ x => meets tgt (evalO env x)
  | .convert _ _ x => !noRow (evalO env x)
  | _ => false
def depOn (o : Oper) (k : Nat) : Bool := o.after.toList.any fun e => bif Region.binds .any e then Nat.beq e.on k else false
def depB (all : List Oper) (j k : Nat) : Bool := match nth all j with | some o => depOn o k | none => true
def stillAt (all : List Oper) (i : Nat) : Bool := match nth all i with | some o => still o.op | none => false
def storesAt (all : List Oper) (i : Nat) : Bool := match nth all i with | some o => (match storesTo o.op with | some _ => true | none => false) | none => false
def addsAt (all : List Oper) (i : Nat) : Bool := match nth all i with | some o => adds o.op | none => false
def readyIn (all : List Oper) (U : List Nat) (i : Nat) : Bool := U.all fun k => !depB all i k
def stillIn (all : List Oper) (U : List Nat) : Option Nat := U.find? fun i => bif stillAt all i then readyIn all U i else false
def without (U : List Nat) (i : Nat) : List Nat := U.filter fun k => !Nat.beq k i
/-- what an operation yields is read by those alone that wait for it -/
def antiOk (all : List Oper) (i : Nat) : Bool := match nth all i with
  | some x => (match x.dst with
    | none => true
    | some d => (List.range all.length).all fun k => match nth all k with
      | some o => bif (o.looksAt all.toArray).contains d then (bif Nat.beq k i then false else depB all k i) else true
      | none => true)
  | none => false
/-- of two that are in no order: may the first (which is still) come behind the second, too? -/
def pairOk (all : List Oper) (i j : Nat) : Bool := bif stillAt all i then (bif (bif stillAt all j then true else bif addsAt all j then true else bif storesAt all j then antiOk all i else false) then (match nth all i, nth all j with | some x, some y => Oper.apart all.toArray x y | _, _ => false) else false) else true
def inOrder (all : List Oper) (i j : Nat) : Bool := bif Nat.beq i j then true else bif depB all i j then true else depB all j i
def pairsOk (all : List Oper) (n : Nat) : Bool := (List.range n).all fun i => (List.range n).all fun j => bif inOrder all i j then true else pairOk all i j
/-- what an operation waits for is another one of the region -/
def edgesOk (all : List Oper) : Bool := (List.range all.length).all fun i => match nth all i with
  | some o => o.after.toList.all fun e => bif Region.binds .any e then (bif Nat.blt e.on all.length then !Nat.beq e.on i else false) else true
  | none => false
def calm (all : List Oper) : Bool := bif edgesOk all then pairsOk all all.length else false
def keepAt (all : List Oper) (i : Nat) : Bool := (List.range all.length).any fun k => !inOrder all i k
/-- a store among what is in no order: what came before it may come behind it, too -/
def storeOk (all : List Oper) (U : List Nat) (i : Nat) (env : Env) (op : Op) : Bool := match storesTo op with
  | none => true
  | some a => (List.range all.length).all fun k => bif U.contains k then true else bif inOrder all i k then true else (match nth all k with | some o => !touches (evalO env a) env o.op | none => true)
def stepI (T : Tab) (callK : CallK) (all : List Oper) (i : Nat) (U : List Nat) (cont : Env → List HObj → Prop) (env : Env) (H : List HObj) : Prop := match nth all i with
  | some o => guarded all env o.guard
      (fun env => gate (storeOk all U i env o.op) (opK callK (keepAt all i) H (fun v H => cont (putD env o.dst v) H) (opR T H env o.op)))
      (fun env => cont (putD env o.dst (.tup [])) H)
  | none => False
def allOf (l : List Nat) (p : Nat → Prop) : Prop := match l with
  | [] => False
  | i :: r => (match r with | [] => p i | _ :: _ => List.rec (p i) (fun j _ ih => p j ∧ ih) r)
/-- still operations as soon as they may come, of the others each that may come -/
def runD (T : Tab) (callK : CallK) (all : List Oper) (K : St → Prop) (n : Nat) : List Nat → Env → List HObj → Prop :=
  Nat.rec (fun U env H => match U with | [] => K ⟨env, H⟩ | _ :: _ => False) (fun _ ih U env H => match U with
    | [] => K ⟨env, H⟩
    | i :: U => (match stillIn all (i :: U) with
      | some k => stepI T callK all k (i :: U) (ih (without (i :: U) k)) env H
      | none => allOf ((i :: U).filter (readyIn all (i :: U))) fun k => stepI T callK all k (i :: U) (ih (without (i :: U) k)) env H)) n
def runI (T : Tab) (callK : CallK) (all : List Oper) (K : St → Prop) (env : Env) (H : List HObj) : Prop := runD T callK all K all.length (List.range all.length) env H
def regionK (T : Tab) (callK : CallK) (go : St → Prop) (st : St) (ops : List Oper) (dr : Bool) : Prop := match dr with
  | false => runOps T callK ops go ops st.env st.H
  | true => bif calm ops then runI T callK ops go st.env st.H else False
/-- one step over a piece of code -/
def codeK (T : Tab) (callK : CallK) (fin : St → Prop) (go : List Item → St → Prop) (k : List Item) (st : St) (c : Code) : Prop := match c with
  | .skip => go k st
  | .region _ ops dr => regionK T callK (go k) st ops.toList dr
  | .seq a b => go (.code a :: .code b :: k) st
  | .cond c x y => condK st c (go (.code x :: k)) (go (.code y :: k)) (evalO st.env c)
  | .block id b => go (.code b :: .inBlock id :: k) st
  | .loop b => go (.inLoop b :: k) st
  | .exit id => exitK go st (dropTo id k)
  | .ret => fin st
  | _ => False
def itemK (T : Tab) (callK : CallK) (loopK : List Item → St → Prop) (fin : St → Prop) (go : List Item → St → Prop) (k : List Item) (st : St) (i : Item) : Prop := match i with
  | .inBlock _ => go k st
  | .inLoop c => loopK (.inLoop c :: k) st
  | .code c => codeK T callK fin go k st c
  | _ => False
def stepK (T : Tab) (callK : CallK) (loopK : List Item → St → Prop) (fin : St → Prop) (go : List Item → St → Prop) (todo : List Item) (st : St) : Prop := match todo with
  | [] => fin st
  | i :: k => itemK T callK loopK fin go k st i
def execN (T : Tab) (callK : CallK) (loopK : List Item → St → Prop) (fin : St → Prop) (n : Nat) : List Item → St → Prop :=
  Nat.rec (fun _ _ => False) (fun _ ih => stepK T callK loopK fin ih) n
def initArgs (l : List AV) : Env → Nat → Env := List.rec (fun e _ => e) (fun x _ ih e n => ih (setE e n x) (n + 1)) l
def initEnv (n : Nat) (args : List AV) : Env := initArgs args ⟨n, emptyT (bif Nat.blt n 62 then 6 else bif Nat.blt n 126 then 7 else bif Nat.blt n 254 then 8 else 11)⟩ 0
/-! are two values, two objects the same? (a test that may fail to see it) -/
def eqInt (a b : Int) : Bool := decide (a = b)
def eqBool (a b : Bool) : Bool := a == b
def eqStr (a b : ByteArray) : Bool := decide (a.data.toList = b.data.toList)
def eqL {α : Type} (f : α → α → Bool) : List α → List α → Bool
  | [], [] => true
  | x :: l, y :: r => bif f x y then eqL f l r else false
  | _, _ => false
mutual
def eqC : (t : CTy) → t.D → t.D → Bool
  | .int _, a, b => eqInt a b
  | .bool, a, b => eqBool a b
  | .str, a, b => eqStr a b
  | .slice e, a, b => eqL (eqE e) a b
def eqE : (e : ETy) → e.D → e.D → Bool
  | .one t, a, b => eqC t a b
  | .more t e, a, b => bif eqC t a.1 b.1 then eqE e a.2 b.2 else false
end
def eqRow (e : ETy) (l : List e.D) (x : Option (List e.D)) : Bool := match x with | some r => eqL (eqE e) l r | none => false
def eqAV (x y : AV) : Bool := match x with
  | .int k n => (match y with | .int k' n' => bif decide (k = k') then eqInt n n' else false | _ => false)
  | .bool b => (match y with | .bool b' => eqBool b b' | _ => false)
  | .str s => (match y with | .str s' => eqStr s s' | _ => false)
  | .imm e l => (match y with | .imm e' l' => eqRow e l (castRow e e' l') | _ => false)
  | .own i => (match y with | .own j => Nat.beq i j | _ => false)
  | .ptr i o => (match y with | .ptr j p => bif Nat.beq i j then Nat.beq o p else false | _ => false)
  | .nils => (match y with | .nils => true | _ => false)
  | .nilp => (match y with | .nilp => true | _ => false)
  | .undef => (match y with | .undef => true | _ => false)
  | .win i o n => (match y with | .win j p m => bif Nat.beq i j then (bif Nat.beq o p then Nat.beq n m else false) else false | _ => false)
  | .parr i => (match y with | .parr j => Nat.beq i j | _ => false)
  | _ => false
def eqObj (x y : HObj) : Bool := match x with
  | .dead => true
  | .typed e l f => (match y with | .typed e' l' f' => bif eqBool f f' then eqRow e l (castRow e e' l') else false | _ => false)
  | .box cs => (match y with | .box ds => eqL eqAV cs ds | _ => false)
def agreeB (H H' : List HObj) : Bool := List.rec (fun _ => true) (fun x _ ih H' => match H' with | y :: r => bif eqObj x y then ih r else false | [] => false) H H'
def keepK (H : List HObj) (keep : Bool) (K : AV → List HObj → Prop) (v : AV) (H' : List HObj) : Prop := match keep with
  | false => K v H'
  | true => bif agreeB H H' then K v H' else False
def callRun (T : Tab) (go : FnT → List Item → St → (AV → List HObj → Prop) → Prop) : CallK := fun g args H keep K => match find T.fn g with
  | some gn => bif Nat.ble args.length gn.n then go gn [.code gn.body] ⟨initEnv gn.n args, H⟩ (keepK H keep K) else False
  | none => False
def loopRun (go : List Item → St → Prop) (todo : List Item) (st : St) : Prop := match todo with
  | .inLoop c :: r => go (.code c :: .inLoop c :: r) st
  | _ => False
/-- a closed run: every call walked into, every loop gone round -/
def run (T : Tab) (k : Nat) : FnT → List Item → St → (AV → List HObj → Prop) → Prop :=
  Nat.rec (fun _ _ _ _ => False) (fun _ ih f todo st K => execN T (callRun T ih) (loopRun fun todo st => ih f todo st K) (finK T f.res K) 400 todo st) k
end
end Go.Proofs.Ytejcniaepjahbaa.Mach
