/- New variables: sound. -/
import Derived.Test.YtejcniaepjahbaaM9
import Derived.Below
set_option linter.unusedSimpArgs false
namespace Go.Proofs.Ytejcniaepjahbaa.Mach
open Go
theorem cell_one {c : Ctx} {w : World} {x : AV} {v : Value} (h : AVR c w x v) (hx : isCell x = true) : v.oneCell' = true ∧ v.cells = #[v] := by
  cases h <;> first
    | (simp [isCell] at hx; done)
    | exact ⟨rfl, rfl⟩
    | skip
  · rename_i e l hc
    simp only [CellR] at hc
    obtain ⟨A, cap, rfl, _⟩ := hc
    exact ⟨rfl, rfl⟩
  · cases v <;> first | (simp [isCell] at hx; done) | exact ⟨rfl, rfl⟩
theorem allCells_mem : ∀ {l : List AV}, allCells l = true → ∀ (j : Nat) (y : AV), l[j]? = some y → isCell y = true
  | [], _, j, y, hy => by simp at hy
  | x :: l, h, j, y, hy => by
    have h' : (bif isCell x then allCells l else false) = true := h
    cases hx : isCell x with
    | false => rw [hx] at h'; simp at h'
    | true =>
      rw [hx] at h'
      cases j with
      | zero => simp only [List.getElem?_cons_zero, Option.some.injEq] at hy; subst hy; exact hx
      | succ j => exact allCells_mem (show allCells l = true from h') j y (by simpa using hy)
/-- the cells of a value that may be laid into memory -/
theorem cells_rel {c : Ctx} {w : World} {x : AV} {v : Value} (h : AVR c w x v) (hx : isVal x = true) : (cellsOf x).length = v.cells.size ∧
    ∀ (j : Nat) (y : AV), (cellsOf x)[j]? = some y → AVR c w y (v.cells.getD j default) ∧ (v.cells.getD j default).oneCell' = true := by
  have one : cellsOf x = [x] → isCell x = true → (cellsOf x).length = v.cells.size ∧ ∀ (j : Nat) (y : AV), (cellsOf x)[j]? = some y → AVR c w y (v.cells.getD j default) ∧ (v.cells.getD j default).oneCell' = true := by
    intro hc hi
    obtain ⟨h1, h2⟩ := cell_one h hi
    rw [hc, h2]
    refine ⟨rfl, fun j y hy => ?_⟩
    cases j with
    | zero => simp only [List.getElem?_cons_zero, Option.some.injEq] at hy; subst hy; exact ⟨h, h1⟩
    | succ j => simp at hy
  cases x with
  | agg cs =>
    cases h with
    | agg hl u h1 h2 =>
      rename_i vs
      refine ⟨hl, fun j y hy => ?_⟩
      have e : (Value.agg vs).cells.getD j default = u j := by
        show vs.getD j default = u j
        simp [Array.getD_eq_getD_getElem?, h1 j y hy]
      rw [e]
      exact ⟨h2 j y hy, (cell_one (h2 j y hy) (allCells_mem hx j y hy)).1⟩
  | _ => exact one rfl hx
/-- what the executor keeps of the memory -/
structure Mem (n0 : Nat) (c : Ctx) (H : List HObj) (w : World) : Prop where
  obj : HR n0 c H w
  base : n0 ≤ w.heap.size
  stab : ∀ g, c.S g → g < w.heap.size
  old : ∀ g, c.S g → g < n0 → c.S0 g
/-- an operation that may change the memory -/
def MemSpec (P : Program) (n0 : Nat) (c : Ctx) (w : World) (o : Oper) (a : Act) (x : AV) (H' : List HObj) : Prop :=
  ∃ v w' c', (execOp a.eval o).run P w = .ok (.value v) w' ∧ Ctx.le c c' ∧ AVR c' w' x v ∧ Mem n0 c' H' w' ∧ RowKit.Below n0 w w' ∧ ∀ g, c.S g → w'.heap[g]? = w.heap[g]?
section
variable {P : Program} {T : Tab} {n0 : Nat} {c : Ctx} {H : List HObj} {w : World} {env : Env} {a : Act} {o : Oper}
theorem s_box (hM : Mem n0 c H w) (h : EnvR c w env a.tmps) {t : TypeId} {x : Operand} (ho : o.op = .box t x) (hv : isVal (evalO env x) = true) :
    MemSpec P n0 c w o a (.ptr H.length 0) (H ++ [.box (cellsOf (evalO env x))]) := by
  have hx := evalO_rel h x
  obtain ⟨h1, h2⟩ := cells_rel hx hv
  have hold : ∀ g, g < w.heap.size → (w.alloc (.cells (a.eval x).cells t)).heap[g]? = w.heap[g]? := fun g hg => heap_alloc_old w _ g hg
  have hle := Ctx.more_le c (.pointer (some ⟨w.heap.size, 0, none⟩)) 0 (S := c.S) (fun _ hg => hg)
  have hS : ∀ g, c.S g → (w.alloc (.cells (a.eval x).cells t)).heap[g]? = w.heap[g]? := fun g hg => hold g (hM.stab g hg)
  refine ⟨.pointer (some ⟨w.heap.size, 0, none⟩), w.alloc (.cells (a.eval x).cells t), c.more (.pointer (some ⟨w.heap.size, 0, none⟩)) 0 c.S, ?_, hle, ?_, ⟨?_, ?_, ?_, fun g hg hl => hM.old g hg hl⟩, ?_, hS⟩
  · simp [execOp, ho, Instr.box, newVar, newRow, newObj, Sem.run_bind, Sem.run_pure, Sem.run]
  · exact .ptr (off := 0) (by simp [Ctx.more, hM.obj.len]) (by simp [Ctx.more, hM.obj.len])
  · refine hM.obj.push hold hM.stab (fun id g hid hal hb => hM.obj.lt id g hid hal hb) (fun g hg => by simp [blk] at hg; omega) ?_
    refine ⟨w.heap.size, t, (a.eval x).cells, by simp [Ctx.more], hM.base, heap_alloc_new w _, h1.symm, fun j y hy => ((h2 j y hy).1).mono hle hS, fun hg => ?_⟩
    have := hM.stab _ hg
    omega
  · have := hM.base
    simp; omega
  · intro g hg
    have := hM.stab g hg
    simp; omega
  · exact (RowKit.Below.refl n0 w).alloc hM.base _
end
end Go.Proofs.Ytejcniaepjahbaa.Mach
