/- Operations whose order is not told: swapped. -/
import Derived.Test.YtejcniaepjahbaaM34
set_option linter.unusedSimpArgs false
set_option linter.unusedVariables false
namespace Go.Proofs.Ytejcniaepjahbaa.Mach
open Go
/-! ### slots -/
theorem setT_comm : ∀ (t : Tree0) (i j : Nat) (x y : AV), i ≠ j → setT (setT t i x) j y = setT (setT t j y) i x
  | .leaf, _, _, _, _, _ => rfl
  | .node v a b, i, j, x, y, h => by
    cases i with
    | zero =>
      cases j with
      | zero => exact absurd rfl h
      | succ j =>
        rw [setT_zero, setT_succ, setT_succ]
        split <;> rw [setT_zero]
    | succ i =>
      cases j with
      | zero =>
        rw [setT_zero, setT_succ, setT_succ]
        split <;> rw [setT_zero]
      | succ j =>
        rw [setT_succ, setT_succ]
        by_cases hi : i % 2 = 0
        · rw [if_pos hi, setT_succ]
          by_cases hj : j % 2 = 0
          · rw [if_pos hj, if_pos hj, setT_succ, if_pos hi, setT_comm a _ _ x y (by omega)]
          · rw [if_neg hj, if_neg hj, setT_succ, if_pos hi]
        · rw [if_neg hi, setT_succ]
          by_cases hj : j % 2 = 0
          · rw [if_pos hj, if_pos hj, setT_succ, if_neg hi]
          · rw [if_neg hj, if_neg hj, setT_succ, if_neg hi, setT_comm b _ _ x y (by omega)]
theorem setT_self : ∀ (t : Tree0) (i : Nat) (x : AV), getT t i = x → x ≠ .undef → setT t i x = t
  | .leaf, _, _, _, _ => rfl
  | .node v a b, 0, x, h, _ => by
    have : v = x := h
    rw [setT_zero, this]
  | .node v a b, i + 1, x, h, hx => by
    rw [getT_succ] at h
    rw [setT_succ]
    split at h
    · rename_i hi; rw [if_pos hi, setT_self a _ _ h hx]
    · rename_i hi; rw [if_neg hi, setT_self b _ _ h hx]
theorem setE_eq (e : Env) (i : Nat) (v : AV) : setE e i v = if i < e.lim then ⟨e.lim, setT e.t i v⟩ else e := by
  by_cases h : i < e.lim
  · rw [setE_lt _ _ _ h, if_pos h]
  · rw [setE_ge _ _ _ h, if_neg h]
theorem setE_comm (e : Env) (i j : Nat) (x y : AV) (h : i ≠ j) : setE (setE e i x) j y = setE (setE e j y) i x := by
  simp only [setE_eq]
  by_cases hi : i < e.lim <;> by_cases hj : j < e.lim <;> simp [hi, hj, setT_comm _ _ _ _ _ h]
theorem setE_self {e : Env} {i : Nat} {x : AV} (h : getE e i = x) (hx : x ≠ .undef) : setE e i x = e := by
  by_cases hi : i < e.lim
  · rw [setE_lt _ _ _ hi, setT_self _ _ _ (by rw [← getE_lt _ _ hi]; exact h) hx]
  · rw [setE_ge _ _ _ hi]
theorem getE_setE {e : Env} {d i : Nat} {x : AV} (h : i ≠ d) : getE (setE e d x) i = getE e i := by
  by_cases hd : d < e.lim
  · rw [setE_lt _ _ _ hd]
    by_cases hi : i < e.lim
    · rw [getE_lt ⟨e.lim, setT e.t d x⟩ _ hi, getE_lt _ _ hi, (getT_setT e.t d i x).1 h]
    · rw [getE_ge ⟨e.lim, setT e.t d x⟩ _ hi, getE_ge _ _ hi]
  · rw [setE_ge _ _ _ hd]
theorem putD_comm (e : Env) (d d' : Option Tmp) (x y : AV) (h : ∀ t, d = some t → d' ≠ some t) : putD (putD e d x) d' y = putD (putD e d' y) d x := by
  cases d with
  | none => rfl
  | some t =>
    cases d' with
    | none => rfl
    | some u => exact setE_comm e t u x y fun he => h t rfl (by rw [he])
theorem evalO_putD {e : Env} {d : Option Tmp} {x : AV} {y : Operand} (h : ∀ t, d = some t → y ≠ .tmp t) : evalO (putD e d x) y = evalO e y := by
  cases d with
  | none => rfl
  | some t =>
    cases y with
    | tmp u => exact getE_setE fun he => h t rfl (by rw [he])
    | _ => rfl
/-! ### an operation looks at its operands alone -/
theorem opR_congr (T : Tab) (H : List HObj) {e e' : Env} (op : Op) (h : ∀ x ∈ op.operands, evalO e x = evalO e' x) : opR T H e op = opR T H e' op := by
  have lst : ∀ xs : Array Operand, (∀ x ∈ xs, evalO e x = evalO e' x) → xs.toList.map (evalO e) = xs.toList.map (evalO e') := fun xs hx => List.map_congr_left fun x hm => hx x (by simpa using hm)
  have prt : ∀ ps : Array (Nat × Operand), (∀ x ∈ ps.map (·.2), evalO e x = evalO e' x) → oParts e ps = oParts e' ps := fun ps hx => by
    unfold oParts
    exact List.map_congr_left fun p hm => by rw [hx p.2 (Array.mem_map.2 ⟨p, by simpa using hm, rfl⟩)]
  have opt : ∀ x : Option Operand, (∀ y ∈ x, evalO e y = evalO e' y) → x.map (evalO e) = x.map (evalO e') := fun x hx => by
    cases x with
    | none => rfl
    | some y => simp [hx y rfl]
  cases op with
  | move x => exact congrArg (oMove H) (h x (by simp [Op.operands]))
  | assign x => exact congrArg (oMove H) (h x (by simp [Op.operands]))
  | binOp o t x y u => simp only [opR]; rw [h x (by simp [Op.operands]), h y (by simp [Op.operands])]
  | unOp o t x => simp only [opR]; rw [h x (by simp [Op.operands])]
  | convert s d x => simp only [opR]; rw [h x (by simp [Op.operands])]
  | indexAddr t x y => simp only [opR]; rw [h x (by simp [Op.operands]), h y (by simp [Op.operands])]
  | index t x y => simp only [opR]; rw [h x (by simp [Op.operands]), h y (by simp [Op.operands])]
  | load t x => simp only [opR]; rw [h x (by simp [Op.operands])]
  | store t x y => simp only [opR]; rw [h x (by simp [Op.operands]), h y (by simp [Op.operands])]
  | slice t x lo hi mx =>
    simp only [opR, oSlice]
    rw [h x (by simp [Op.operands]), opt lo fun y hy => h y (by simp [Op.operands, Option.mem_def.1 hy]), opt hi fun y hy => h y (by simp [Op.operands, Option.mem_def.1 hy])]
  | field t x f => simp only [opR]; rw [h x (by simp [Op.operands])]
  | fieldAddr t x f => simp only [opR]; rw [h x (by simp [Op.operands])]
  | alloc t => rfl
  | box t x => simp only [opR]; rw [h x (by simp [Op.operands])]
  | build t ps => simp only [opR]; rw [prt ps fun x hx => h x (by simpa [Op.operands] using hx)]
  | buildSlice t n ps => simp only [opR]; rw [prt ps fun x hx => h x (by simpa [Op.operands] using hx)]
  | makeSlice t x y => simp only [opR]; rw [h x (by simp [Op.operands]), h y (by simp [Op.operands])]
  | makeFunc f fs cs =>
    simp only [opR, oMakeFunc]
    rw [lst cs fun x hx => h x (by simp [Op.operands, hx])]
  | extract x i => simp only [opR]; rw [h x (by simp [Op.operands])]
  | pick x y z => simp only [opR]; rw [h x (by simp [Op.operands]), h y (by simp [Op.operands]), h z (by simp [Op.operands])]
  | nilCheck x => simp only [opR]; rw [h x (by simp [Op.operands])]
  | call c =>
    obtain ⟨cal, args, ts⟩ := c
    simp only [opR]
    rw [lst args fun x hx => h x (by simp [Op.operands, Call.operands, hx])]
    cases cal with
    | builtin b => rfl
    | value f => simp only [oCall]; rw [h f (by simp [Op.operands, Call.operands])]
    | invoke r m => rfl
  | _ => rfl
end Go.Proofs.Ytejcniaepjahbaa.Mach
