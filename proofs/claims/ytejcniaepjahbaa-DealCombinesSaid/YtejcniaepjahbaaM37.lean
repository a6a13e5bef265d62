/- A call that is shown alone (with no local objects of the caller) may be made anywhere. -/
import Derived.Test.YtejcniaepjahbaaM36
set_option linter.unusedSimpArgs false
set_option linter.unusedVariables false
namespace Go.Proofs.Ytejcniaepjahbaa.Mach
open Go
noncomputable section
/-- an array as a value that is only read -/
def viewAt (H : List HObj) (id : Nat) : Option AV := match objAt H id with
  | .typed e xs _ => some (.imm e xs)
  | _ => none
def viewWin (H : List HObj) (id off len : Nat) : Option AV := match objAt H id with
  | .typed e xs _ => some (.imm e ((xs.drop off).take len))
  | _ => none
/-- an argument's cell, without the caller's objects -/
def plain1 (H : List HObj) : AV → Option AV
  | .int k n => some (.int k n)
  | .bool b => some (.bool b)
  | .str s => some (.str s)
  | .imm e l => some (.imm e l)
  | .own id => viewAt H id
  | .win id off len => viewWin H id off len
  | .nils => some .nils
  | .nilp => some .nilp
  | .undef => some .undef
  | .fn f [] => some (.fn f [])
  | .raw v => some (.raw v)
  | _ => none
def plainL (H : List HObj) (l : List AV) : Option (List AV) := List.rec (some []) (fun x _ ih => match plain1 H x with | some y => (match ih with | some r => some (y :: r) | none => none) | none => none) l
def plain (H : List HObj) (x : AV) : Option AV := match x with
  | .agg cs => (match plainL H cs with | some ds => some (.agg ds) | none => none)
  | x => plain1 H x
def plains (H : List HObj) (l : List AV) : Option (List AV) := List.rec (some []) (fun x _ ih => match plain H x with | some y => (match ih with | some r => some (y :: r) | none => none) | none => none) l
/-- the objects that an argument shows -/
def argIds (l : List AV) : List Nat := List.rec [] (fun x _ ih => showL (cellsOf x) ++ ih) l
/-! ### results -/
def re1 (f : Nat → Nat) : AV → AV
  | .own id => .own (f id)
  | x => x
def reId (f : Nat → Nat) : AV → AV
  | .tup vs => .tup (vs.map (re1 f))
  | x => re1 f x
def out1 (n : Nat) : AV → Bool
  | .int _ _ => true
  | .bool _ => true
  | .str _ => true
  | .own k => Nat.blt k n
  | .nils => true
  | .nilp => true
  | .imm _ _ => true
  | _ => false
def outL (n : Nat) (l : List AV) : Bool := List.rec true (fun x _ ih => bif out1 n x then ih else false) l
def outOk (n : Nat) : AV → Bool
  | .tup vs => outL n vs
  | x => out1 n x
def isTyped : HObj → Bool
  | .typed _ _ _ => true
  | _ => false
def typedL (l : List HObj) : Bool := List.rec true (fun x _ ih => bif isTyped x then ih else false) l
/-- no slices within -/
def flatC : CTy → Bool
  | .slice _ => false
  | _ => true
def flatE : ETy → Bool
  | .one t => flatC t
  | .more t e => bif flatC t then flatE e else false
def flatO : HObj → Bool
  | .typed e _ _ => flatE e
  | _ => false
def flatL (l : List HObj) : Bool := List.rec true (fun x _ ih => bif flatO x then ih else false) l
def noImm1 : AV → Bool
  | .imm _ _ => false
  | _ => true
def noImmL (l : List AV) : Bool := List.rec true (fun x _ ih => bif noImm1 x then ih else false) l
def noImm : AV → Bool
  | .tup vs => noImmL vs
  | x => noImm1 x
def flatR (v : AV) (objs : List HObj) : Bool := bif noImm v then flatL objs else false
/-- the callee's result by the caller's reckoning: v tells the arrays of 'objs' by their places there -/
def Ren (H' : List HObj) (v' v : AV) (objs : List HObj) : Prop := ∃ ids : List Nat, ids.length = objs.length ∧ ids.Nodup ∧ (∀ (k id : Nat), ids[k]? = some id → objs[k]? = some (objAt H' id)) ∧ v' = reId (fun k => ids.getD k 0) v
/-- a call, shown alone -/
def Con (P : Program) (g : FuncId) (args : List AV) (Q : AV → List HObj → Prop) : Prop := ∀ n0, CallOk P n0 g args [] fun v' H' => ∃ v objs, Q v objs ∧ outOk objs.length v = true ∧ typedL objs = true ∧ Ren H' v' v objs
/-- the caller's memory behind the call -/
def behind (H : List HObj) (args : List AV) (v : AV) (objs : List HObj) : List HObj := (bif flatR v objs then H else freezeAt H (argIds args)) ++ objs
end
theorem argIds_mem {l : List AV} {id : Nat} : id ∈ argIds l ↔ ∃ x ∈ l, id ∈ showL (cellsOf x) := by
  induction l with
  | nil => simp [argIds]
  | cons y l ih =>
    show id ∈ showL (cellsOf y) ++ argIds l ↔ _
    rw [List.mem_append, ih]
    simp
section
variable {P : Program} {n0 : Nat} {c : Ctx} {H : List HObj} {w : World}
/-- the callee's context: no objects -/
def alone (S : Nat → Prop) : Ctx := ⟨0, fun _ => default, fun _ => 0, S, S⟩
theorem castRow_self {e : ETy} {l : List e.D} (hb : ETy.beq e e = true) : castRow e e l = some l := by
  unfold castRow
  rw [dif_pos hb]
mutual
theorem CTy.beq_self : ∀ t : CTy, CTy.beq t t = true
  | .int k => by simp [CTy.beq]
  | .bool => rfl
  | .str => rfl
  | .slice e => by simp only [CTy.beq]; exact ETy.beq_self e
theorem ETy.beq_self : ∀ e : ETy, ETy.beq e e = true
  | .one t => by simp only [ETy.beq]; exact CTy.beq_self t
  | .more t e => by simp only [ETy.beq, Bool.and_eq_true]; exact ⟨CTy.beq_self t, ETy.beq_self e⟩
end
theorem plain1_rel (hH : HR n0 c H w) {S : Nat → Prop} (hS : ∀ g, c.S g → S g) {x y : AV} {v : Value} (hx : AVR c w x v) (hy : plain1 H x = some y) (hs : ∀ id ∈ show1 x, isArr (objAt H id) = true → ∀ g, blk (c.m id) = some g → S g) : AVR (alone S) w y v := by
  unfold plain1 at hy
  split at hy <;> try (simp at hy; done)
  · simp only [Option.some.injEq] at hy; subst hy; cases hx; exact .int _ _
  · simp only [Option.some.injEq] at hy; subst hy; cases hx; exact .bool _
  · simp only [Option.some.injEq] at hy; subst hy; cases hx; exact .str _
  · simp only [Option.some.injEq] at hy
    subst hy
    cases hx with
    | imm hc => exact .imm (CellR.mono hS (fun _ _ => rfl) hc)
  · rename_i id
    unfold viewAt at hy
    split at hy
    · rename_i e xs fz ho
      simp only [Option.some.injEq] at hy
      subst hy
      refine .imm (row_stable hH hx (e := e) (l := xs) ?_ hS hs)
      simp only [rowOf, ho, castRow_self (ETy.beq_self e)]
    · simp at hy
  · rename_i id off len
    unfold viewWin at hy
    split at hy
    · rename_i e xs fz ho
      simp only [Option.some.injEq] at hy
      subst hy
      refine .imm (row_stable hH hx (e := e) ?_ hS hs)
      simp only [rowOf, ho, castRow_self (ETy.beq_self e), Option.map_some]
    · simp at hy
  · simp only [Option.some.injEq] at hy; subst hy; cases hx; exact .nils
  · simp only [Option.some.injEq] at hy; subst hy; cases hx; exact .nilp
  · simp only [Option.some.injEq] at hy; subst hy; exact .undef _
  · simp only [Option.some.injEq] at hy
    subst hy
    cases hx with
    | fn hl u h1 h2 => exact .fn hl u h1 (fun j x hx => by simp at hx)
  · simp only [Option.some.injEq] at hy; subst hy; cases hx; exact .raw _
theorem plainL_get : ∀ {l r : List AV}, plainL H l = some r → l.length = r.length ∧ ∀ (j : Nat) (y : AV), r[j]? = some y → ∃ x, l[j]? = some x ∧ plain1 H x = some y
  | [], r, h => by
    have : r = [] := (Option.some.inj h).symm
    subst this
    exact ⟨rfl, fun j y hy => by simp at hy⟩
  | x :: l, r, h => by
    have h' : (match plain1 H x with | some y => (match plainL H l with | some r => some (y :: r) | none => none) | none => none) = some r := h
    split at h'
    · rename_i y hy
      split at h'
      · rename_i r' hr'
        simp only [Option.some.injEq] at h'
        subst h'
        obtain ⟨h1, h2⟩ := plainL_get hr'
        refine ⟨by simp [h1], fun j z hz => ?_⟩
        cases j with
        | zero => simp only [List.getElem?_cons_zero, Option.some.injEq] at hz; subst hz; exact ⟨x, rfl, hy⟩
        | succ j => simpa using h2 j z (by simpa using hz)
      · simp at h'
    · simp at h'
theorem plains_get : ∀ {l r : List AV}, plains H l = some r → l.length = r.length ∧ ∀ (j : Nat) (y : AV), r[j]? = some y → ∃ x, l[j]? = some x ∧ plain H x = some y
  | [], r, h => by
    have : r = [] := (Option.some.inj h).symm
    subst this
    exact ⟨rfl, fun j y hy => by simp at hy⟩
  | x :: l, r, h => by
    have h' : (match plain H x with | some y => (match plains H l with | some r => some (y :: r) | none => none) | none => none) = some r := h
    split at h'
    · rename_i y hy
      split at h'
      · rename_i r' hr'
        simp only [Option.some.injEq] at h'
        subst h'
        obtain ⟨h1, h2⟩ := plains_get hr'
        refine ⟨by simp [h1], fun j z hz => ?_⟩
        cases j with
        | zero => simp only [List.getElem?_cons_zero, Option.some.injEq] at hz; subst hz; exact ⟨x, rfl, hy⟩
        | succ j => simpa using h2 j z (by simpa using hz)
      · simp at h'
    · simp at h'
theorem plain_rel (hH : HR n0 c H w) {S : Nat → Prop} (hS : ∀ g, c.S g → S g) {x y : AV} {v : Value} (hx : AVR c w x v) (hy : plain H x = some y) (hs : ∀ id ∈ showL (cellsOf x), isArr (objAt H id) = true → ∀ g, blk (c.m id) = some g → S g) : AVR (alone S) w y v := by
  have one : cellsOf x = [x] → plain1 H x = some y → AVR (alone S) w y v := fun hc hp => plain1_rel hH hS hx hp fun id hid => hs id (by rw [hc]; show id ∈ show1 x ++ []; simpa using hid)
  cases x with
  | agg cs =>
    simp only [plain] at hy
    split at hy
    · rename_i ds hds
      simp only [Option.some.injEq] at hy
      subst hy
      obtain ⟨hl, hg⟩ := plainL_get hds
      cases hx with
      | agg hl2 u h1 h2 =>
        refine .agg (by omega) u (fun j y hy => ?_) (fun j y hy => ?_)
        · obtain ⟨x, hx, _⟩ := hg j y hy
          exact h1 j x hx
        · obtain ⟨x, hx, hp⟩ := hg j y hy
          exact plain1_rel hH hS (h2 j x hx) hp fun id hid => hs id (showL_mem.2 ⟨x, List.mem_iff_getElem?.2 ⟨j, hx⟩, hid⟩)
    · simp at hy
  | _ => exact one rfl hy
/-! ### flat rows do not hang on the stable blocks -/
theorem flat_cell {S S' : Nat → Prop} {t : CTy} (hf : flatC t = true) {x : t.D} {v : Value} (h : CellR S w t x v) : CellR S' w t x v := by
  cases t <;> simp only [CellR, flatC] at h hf ⊢ <;> first | exact h | (simp at hf)
theorem flat_elem {S S' : Nat → Prop} : ∀ {e : ETy}, flatE e = true → ∀ {x : e.D} {vs : List Value}, ElemR S w e x vs → ElemR S' w e x vs
  | .one t, hf, x, vs, h => by
    simp only [ElemR] at h ⊢
    obtain ⟨v, h1, h2⟩ := h
    exact ⟨v, h1, flat_cell hf h2⟩
  | .more t e, hf, x, vs, h => by
    simp only [ElemR] at h ⊢
    obtain ⟨v, r, h1, h2, h3⟩ := h
    have hf' : (bif flatC t then flatE e else false) = true := hf
    cases ht : flatC t with
    | false => rw [ht] at hf'; simp at hf'
    | true =>
      rw [ht] at hf'
      exact ⟨v, r, h1, flat_cell ht h2, flat_elem hf' h3⟩
theorem boolL_mem {α : Type} (p : α → Bool) : ∀ {l : List α}, (List.rec (motive := fun _ => Bool) true (fun x _ ih => bif p x then ih else false) l) = true → ∀ x ∈ l, p x = true
  | [], _, x, hx => by cases hx
  | y :: l, h, x, hx => by
    have h' : (bif p y then (List.rec (motive := fun _ => Bool) true (fun x _ ih => bif p x then ih else false) l) else false) = true := h
    cases hy : p y with
    | false => rw [hy] at h'; simp at h'
    | true =>
      rw [hy] at h'
      rcases List.mem_cons.1 hx with rfl | hx
      · exact hy
      · exact boolL_mem p h' x hx
end
end Go.Proofs.Ytejcniaepjahbaa.Mach
