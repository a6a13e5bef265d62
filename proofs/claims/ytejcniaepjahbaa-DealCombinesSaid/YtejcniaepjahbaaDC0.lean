/- What the functions of the package deal come to: definitions. -/
import Derived.Test.YtejcniaepjahbaaM33
import Derived.Test.YtejcniaepjahbaaM40
namespace Go.Proofs.Ytejcniaepjahbaa.Deal
open Go Go.Proofs.Ytejcniaepjahbaa.Mach
abbrev eI : ETy := .one (.int .i64)
/-- no contracts -/
def con0 : FuncId → List AV → (AV → List HObj → Prop) → Prop := fun _ _ _ => False
/-- the bounds that every input keeps -/
def Fit (l : List Int) : Prop := l.length * 8 ≤ 140737488351232
/-- draws that fit n cards: 0, or the error -/
def fitsV (n : Int) (l : List Int) : Int := if (l.length : Int) ≠ max 0 (n - 1) then 3 else if ∀ j, j < l.length → 0 ≤ l.getD j 0 ∧ l.getD j 0 ≤ n - 1 - j then 0 else 4
def mix (h x : Int) : Int := IntKind.u64.wrap (IntKind.u64.wrap ((BitVec.ofInt 64 h ^^^ BitVec.ofInt 64 (IntKind.u64.wrap ((BitVec.ofInt 64 x &&& BitVec.ofInt 64 255).toNat : Int))).toNat : Int) * 1099511628211)
def shr8 (x : Int) : Int := x.fdiv (2 ^ min (Int.toNat 8) 64)
def addS (h n : Int) : Int :=
  (fun x0 => (fun x1 => (fun x2 => (fun x3 => (fun x4 => (fun x5 => (fun x6 => (fun x7 => mix (mix (mix (mix (mix (mix (mix (mix h x0) x1) x2) x3) x4) x5) x6) x7) (shr8 x6)) (shr8 x5)) (shr8 x4)) (shr8 x3)) (shr8 x2)) (shr8 x1)) (shr8 x0)) (IntKind.u64.wrap n)
def sealV (l : List Int) (s : Int) : Int := l.foldl addS (addS (addS 14695981039346656037 s) (l.length : Int))
/-- the first error of the draws of several players -/
def firstE (n : Int) : List (List Int) → Int
  | [] => 0
  | d :: r => if fitsV n d = 0 then firstE n r else fitsV n d
def combE (n : Int) (l : List (List Int)) : Int := if n < 0 ∨ n > 52 then 4 else if l.length > 6 then 2 else firstE n l
def colSum (l : List (List Int)) (j : Nat) : Int := (l.map fun d => d.getD j 0).sum
def combOut (n : Int) (l : List (List Int)) : List Int := (List.range (n - 1).toNat).map fun j => colSum l j % (n - j)
def fitsC (n : Int) (l : List Int) (Q : AV → List HObj → Prop) : Prop := (0 ≤ n ∧ n ≤ 52 ∧ Fit l) ∧ Q (.int .i64 (fitsV n l)) []
def inC (a b c : Int) (Q : AV → List HObj → Prop) : Prop := Q (.bool (decide (a ≥ b) && decide (a ≤ c))) []
def sealC (l : List Int) (s : Int) (Q : AV → List HObj → Prop) : Prop := Fit l ∧ Q (.int .u64 (sealV l s)) []
def combC (n : Int) (l : List (List Int)) (Q : AV → List HObj → Prop) : Prop := (∀ d ∈ l, Fit d) ∧ ((combE n l ≠ 0 → Q (.tup [.nils, .int .i64 (combE n l)]) []) ∧ ((combE n l = 0 → n ≤ 1 → Q (.tup [.nils, .int .i64 0]) []) ∧ (combE n l = 0 → 1 < n → Q (.tup [.own 0, .int .i64 0]) [.typed eI (combOut n l) false])))
noncomputable section
def ints : AV → Option (List Int)
  | .imm e l => castRow eI e l
  | _ => none
def rows : AV → Option (List (List Int))
  | .imm e l => castRow (.one (.slice eI)) e l
  | _ => none
def numOf : AV → Option Int
  | .int k n => (match k with | .i64 => some n | _ => none)
  | _ => none
def a2 (f : Int → List Int → (AV → List HObj → Prop) → Prop) (xs : List AV) (Q : AV → List HObj → Prop) : Prop := match xs with
  | [x, y] => (match numOf x with | some n => (match ints y with | some l => f n l Q | none => False) | none => False)
  | _ => False
def a2' (f : List Int → Int → (AV → List HObj → Prop) → Prop) (xs : List AV) (Q : AV → List HObj → Prop) : Prop := match xs with
  | [x, y] => (match ints x with | some l => (match numOf y with | some n => f l n Q | none => False) | none => False)
  | _ => False
def a2r (f : Int → List (List Int) → (AV → List HObj → Prop) → Prop) (xs : List AV) (Q : AV → List HObj → Prop) : Prop := match xs with
  | [x, y] => (match numOf x with | some n => (match rows y with | some l => f n l Q | none => False) | none => False)
  | _ => False
def a3 (f : Int → Int → Int → (AV → List HObj → Prop) → Prop) (xs : List AV) (Q : AV → List HObj → Prop) : Prop := match xs with
  | [x, y, z] => (match numOf x with | some a => (match numOf y with | some b => (match numOf z with | some c => f a b c Q | none => False) | none => False) | none => False)
  | _ => False
def a0 (v : AV) (xs : List AV) (Q : AV → List HObj → Prop) : Prop := match xs with
  | [] => Q v []
  | _ => False
/-- Fits and in -/
def con1 : FuncId → List AV → (AV → List HObj → Prop) → Prop := fun g xs Q => bif Nat.beq g 59 then a2 fitsC xs Q else bif Nat.beq g 50 then a3 inC xs Q else False
/-- what the law calls -/
def con2 : FuncId → List AV → (AV → List HObj → Prop) → Prop := fun g xs Q => bif Nat.beq g 24 then a0 (.bool true) xs Q else bif Nat.beq g 25 then a2' sealC xs Q else bif Nat.beq g 26 then a2' sealC xs Q else bif Nat.beq g 27 then a2r combC xs Q else bif Nat.beq g 28 then a2 fitsC xs Q else False
end
end Go.Proofs.Ytejcniaepjahbaa.Deal
