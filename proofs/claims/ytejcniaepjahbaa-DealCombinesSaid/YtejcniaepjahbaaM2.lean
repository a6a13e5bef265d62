/- Operations that leave the memory as it is: what the executor says of them is what the model does. -/
import Derived.Test.YtejcniaepjahbaaM1
import Derived.BigRegion
import Derived.Laws.StructEq
import Derived.Laws.Entries
set_option linter.unusedSimpArgs false
namespace Go.Proofs.Ytejcniaepjahbaa.Mach
open Go
theorem ofVal_rel (c : Ctx) (w : World) : ∀ (d : Nat) (v : Value), AVR c w (ofVal d v) v
  | 0, v => .undef v
  | d + 1, v => by
    have hm : ∀ (cs : Array Value) (j : Nat) (x : AV), (cs.toList.map (ofVal d))[j]? = some x → cs[j]? = some (cs.getD j default) ∧ AVR c w x (cs.getD j default) := by
      intro cs j x hx
      rw [List.getElem?_map, Option.map_eq_some_iff] at hx
      obtain ⟨u, hu, rfl⟩ := hx
      have hu' : cs[j]? = some u := by simpa using hu
      have : cs.getD j default = u := by simp [Array.getD_eq_getD_getElem?, hu']
      rw [this]
      exact ⟨hu', ofVal_rel c w d u⟩
    unfold ofVal
    split
    · exact .int _ _
    · exact .bool _
    · exact .str _
    · exact .nils
    · exact .nilp
    · rename_i cs
      exact .agg (by simp) (fun j => cs.getD j default) (fun j x hx => (hm cs j x hx).1) (fun j x hx => (hm cs j x hx).2)
    · rename_i cs
      exact .tup (by simp) (fun j => cs.getD j default) (fun j x hx => (hm cs j x hx).1) (fun j x hx => (hm cs j x hx).2)
    · exact .fn (cs := []) (vs := #[]) rfl (fun _ => default) (fun j x hx => by simp at hx) (fun j x hx => by simp at hx)
    · exact .raw _
theorem evalO_rel {c : Ctx} {w : World} {env : Env} {a : Act} (h : EnvR c w env a.tmps) (x : Operand) : AVR c w (evalO env x) (a.eval x) := by
  cases x with
  | tmp t => exact h.at_ t
  | const v => exact ofVal_rel c w 3 v
  | global g => exact .undef _
  | func f => exact .fn (cs := []) (vs := #[]) rfl (fun _ => default) (fun j x hx => by simp at hx) (fun j x hx => by simp at hx)
/-- what an operation that leaves the memory alone does -/
def Pure1 (P : Program) (c : Ctx) (w : World) (o : Oper) (a : Act) (x : AV) : Prop := ∃ v, (execOp a.eval o).run P w = .ok (.value v) w ∧ AVR c w x v
section
variable {P : Program} {c : Ctx} {w : World} {env : Env} {a : Act} (h : EnvR c w env a.tmps)
include h
theorem s_move {o : Oper} (x : Operand) (ho : o.op = .move x ∨ o.op = .assign x) : Pure1 P c w o a (evalO env x) := by
  refine ⟨a.eval x, ?_, evalO_rel h x⟩
  rcases ho with ho | ho
  · simp [execOp, ho, pure, Sem.run]
  · simp [execOp, ho, pure, Sem.run]
end
theorem int_inv {c : Ctx} {w : World} {k : IntKind} {n : Int} {v : Value} (h : AVR c w (.int k n) v) : v = .int k n := by cases h; rfl
theorem bool_inv {c : Ctx} {w : World} {b : Bool} {v : Value} (h : AVR c w (.bool b) v) : v = .bool b := by cases h; rfl
theorem str_inv {c : Ctx} {w : World} {s : ByteArray} {v : Value} (h : AVR c w (.str s) v) : v = .string s := by cases h; rfl
theorem intOp_run {P : Program} {c : Ctx} {w : World} (op : BinOp) (t : TypeId) (k : IntKind) (m n : Int) (hg : (intOp op k m n).1 = true) (hop : op ≠ .shl ∧ op ≠ .shr) :
    ∃ v, (binOp op t (.int k m) (.int k n)).run P w = .ok v w ∧ AVR c w (intOp op k m n).2 v := by
  cases op <;> simp only [intOp, Bool.not_eq_true', decide_eq_false_iff_not] at hg ⊢ <;>
    first
    | exact absurd rfl hop.1
    | exact absurd rfl hop.2
    | (refine ⟨_, ?_, .int _ _⟩; simp [binOp, Op.intArith, Op.intDiv, Op.intBits, hg, Sem.run, pure, bind]; done)
    | (refine ⟨_, ?_, .bool _⟩; simp [binOp, Op.intCmp, Sem.run, pure, bind]; done)
    | (refine ⟨.bool (m == n), ?_, ?_⟩; (· simp [binOp, Op.intCmp, Sem.run, pure, bind]); (· rw [show (m == n) = decide (m = n) from rfl]; exact .bool _))
    | (refine ⟨.bool (m != n), ?_, ?_⟩; (· simp [binOp, Op.intCmp, Sem.run, pure, bind]); (· rw [show (m != n) = !decide (m = n) from rfl]; exact .bool _))
/-- what the executor says of an operation that leaves the memory alone -/
def PureSpec (P : Program) (c : Ctx) (w : World) (H : List HObj) (o : Oper) (a : Act) (r : OpR) : Prop := match r with
  | .fail => True
  | .ok g x H' => g = true → H' = H ∧ Pure1 P c w o a x
  | .call _ _ => False
theorem run_bin {P : Program} {w : World} {o : Oper} {a : Act} {op : BinOp} {t u : TypeId} {x y : Operand} (ho : o.op = .binOp op t x y u) {v : Value}
    (hg : (eqGuard op t x y (a.eval x) (a.eval y)).run P w = .ok () w) (hb : (binOp op t (a.eval x) (a.eval y)).run P w = .ok v w) : (execOp a.eval o).run P w = .ok (.value v) w := by
  simp only [execOp, ho, Sem.run_bind, hg, hb, Result.andThen_ok, Sem.run_pure]
theorem guard_plain {P : Program} {w : World} (op : BinOp) (t : TypeId) (x y : Operand) (u v : Value) (hu : ∀ cs, u ≠ .agg cs) (hn : u ≠ .nilIface) : (eqGuard op t x y u v).run P w = .ok () w := by
  unfold eqGuard
  cases u with
  | agg cs => exact absurd rfl (hu cs)
  | nilIface => exact absurd rfl hn
  | _ => cases op <;> first | rfl | (cases v <;> rfl)
theorem strOp_run {P : Program} {c : Ctx} {w : World} (op : BinOp) (t : TypeId) (m n : ByteArray) (hg : (strOp op m n).1 = true) :
    ∃ v, (binOp op t (.string m) (.string n)).run P w = .ok v w ∧ AVR c w (strOp op m n).2 v := by
  cases op <;> simp only [strOp, decide_eq_true_eq, Bool.false_eq_true] at hg ⊢ <;>
    first
    | exact hg.elim
    | (refine ⟨_, ?_, .bool _⟩; simp [binOp, Op.stringOp, Sem.run, pure]; done)
    | (refine ⟨_, ?_, .str _⟩
       have : ¬ ((m.size + n.size : Nat) : Int) > IntKind.i64.max := by
         show ¬ ((m.size + n.size : Nat) : Int) > 9223372036854775807
         omega
       simp only [binOp, Op.stringOp, this, if_false, Sem.run, pure])
theorem kind_bool {P : Program} {T : Tab} (hT : TabOk P T) {t : TypeId} (h : T.kind t = .bool) : P.underlying t = some .bool := by
  unfold Tab.kind at h
  split at h
  · rename_i x hx
    rw [hT.ty _ _ hx] at h
    unfold tyOf at h
    dsimp only at h
    split at h <;> first | assumption | (exfalso; revert h; split <;> simp) | simp at h
  · simp at h
theorem kind_slice {P : Program} {T : Tab} (hT : TabOk P T) {t : TypeId} (h : T.kind t = .slice ∨ T.kind t = .bytes) : ∃ e, P.underlying t = some (.slice e) := by
  unfold Tab.kind at h
  split at h
  · rename_i x hx
    rw [hT.ty _ _ hx] at h
    unfold tyOf at h
    dsimp only at h
    split at h <;> first | exact ⟨_, by assumption⟩ | simp at h
  · simp at h
theorem kind_pointer {P : Program} {T : Tab} (hT : TabOk P T) {t : TypeId} (h : T.kind t = .pointer) : ∃ e, P.underlying t = some (.pointer e) := by
  unfold Tab.kind at h
  split at h
  · rename_i x hx
    rw [hT.ty _ _ hx] at h
    unfold tyOf at h
    dsimp only at h
    split at h <;> first | exact ⟨_, by assumption⟩ | (exfalso; revert h; split <;> simp) | simp at h
  · simp at h
end Go.Proofs.Ytejcniaepjahbaa.Mach
