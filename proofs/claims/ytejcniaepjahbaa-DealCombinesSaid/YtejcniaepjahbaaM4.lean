/- Unary operations, conversions of whole numbers and strings, tests that pick, parts of tuples, lengths, indexes: sound. -/
import Derived.Test.YtejcniaepjahbaaM3
set_option linter.unusedSimpArgs false
namespace Go.Proofs.Ytejcniaepjahbaa.Mach
open Go
theorem kind_str {P : Program} {T : Tab} (hT : TabOk P T) {t : TypeId} (h : T.kind t = .str) : P.underlying t = some .string := by
  unfold Tab.kind at h
  split at h
  · rename_i x hx
    rw [hT.ty _ _ hx] at h
    unfold tyOf at h
    dsimp only at h
    split at h <;> first | assumption | (exfalso; revert h; split <;> simp) | simp at h
  · simp at h
theorem kind_int {P : Program} {T : Tab} (hT : TabOk P T) {t : TypeId} {k : IntKind} (h : T.kind t = .int k) : P.underlying t = some (.int k) := by
  unfold Tab.kind at h
  split at h
  · rename_i x hx
    rw [hT.ty _ _ hx] at h
    unfold tyOf at h
    dsimp only at h
    split at h <;> first | (rename_i hu; rw [hu]; injection h with h; rw [h]) | (exfalso; revert h; split <;> simp) | simp at h
  · simp at h
section
variable {P : Program} {T : Tab} {n0 : Nat} {c : Ctx} {H : List HObj} {w : World} {env : Env} {a : Act} {o : Oper}
theorem s_un (h : EnvR c w env a.tmps) {op : UnOp} {t : TypeId} {x : Operand} (ho : o.op = .unOp op t x) : PureSpec P c w H o a (unR H op (evalO env x)) := by
  have hx := evalO_rel h x
  generalize evalO env x = X at *
  unfold unR
  split
  · rename_i b
    intro _
    refine ⟨rfl, .bool (!b), ?_, .bool _⟩
    simp [execOp, ho, bool_inv hx, Op.unary, Sem.run_bind, Sem.run_pure]
  · rename_i k n
    intro _
    refine ⟨rfl, .int k (k.wrap (0 - n)), ?_, .int _ _⟩
    simp [execOp, ho, int_inv hx, Op.unary, Op.intArith, Sem.run_bind, Sem.run_pure]
  · trivial
theorem s_pick (h : EnvR c w env a.tmps) {x y z : Operand} (ho : o.op = .pick x y z) : PureSpec P c w H o a (oPick H (evalO env x) (evalO env y) (evalO env z)) := by
  have hx := evalO_rel h x
  have hy := evalO_rel h y
  have hz := evalO_rel h z
  have key : ∀ b : Bool, a.eval x = .bool b → (execOp a.eval o).run P w = .ok (.value (if b then a.eval y else a.eval z)) w := by
    intro b hb
    simp [execOp, ho, hb, asBool, Sem.run_bind, Sem.run_pure]
  generalize evalO env x = X at *
  generalize evalO env y = Y at *
  generalize evalO env z = Z at *
  unfold oPick
  split
  · rename_i t
    have hb := key t (bool_inv hx)
    split
    · rename_i p q
      intro _
      refine ⟨rfl, _, hb, ?_⟩
      rw [bool_inv hy, bool_inv hz]
      cases t <;> exact .bool _
    · rename_i k m k' n
      split
      · rename_i hk
        have hk' : k = k' := by simpa using hk
        subst hk'
        intro _
        refine ⟨rfl, _, hb, ?_⟩
        rw [int_inv hy, int_inv hz]
        cases t <;> exact .int _ _
      · trivial
    · cases t with
      | true => intro _; exact ⟨rfl, _, hb, hy⟩
      | false => intro _; exact ⟨rfl, _, hb, hz⟩
  · trivial
theorem getAt_get (l : List AV) (i : Nat) : getAt l i = (l[i]?).getD .undef := by
  induction l generalizing i with
  | nil => rfl
  | cons x l ih =>
    cases i with
    | zero => rfl
    | succ n => exact (ih n).trans (by simp)
theorem s_extract (h : EnvR c w env a.tmps) {x : Operand} {i : Nat} (ho : o.op = .extract x i) : PureSpec P c w H o a (oExtract H (evalO env x) i) := by
  have hx := evalO_rel h x
  generalize evalO env x = X at *
  unfold oExtract
  split
  · rename_i cs
    intro hg
    have hg' := (blt_iff _ _).1 hg
    generalize hv : a.eval x = vx at *
    cases hx with
    | tup hl u h1 hr =>
      rename_i vs
      have hci : cs[i]? = some cs[i] := List.getElem?_eq_getElem (by omega)
      have hu := h1 i _ hci
      refine ⟨rfl, u i, ?_, ?_⟩
      · simp [execOp, ho, hv, Instr.extract, hu, Sem.run_bind, Sem.run_pure]
      · rw [getAt_get, hci]; exact hr i _ hci
  · trivial
theorem s_nilCheck (h : EnvR c w env a.tmps) {x : Operand} (ho : o.op = .nilCheck x) : PureSpec P c w H o a (oNilCheck H (evalO env x)) := by
  have hx := evalO_rel h x
  generalize evalO env x = X at *
  unfold oNilCheck
  split <;> first
    | trivial
    | (intro _
       generalize hv : a.eval x = vx at *
       refine ⟨rfl, vx, ?_, hx⟩
       cases hx <;> simp [execOp, ho, hv, Sem.run_bind, Sem.run_pure])
theorem s_index (h : EnvR c w env a.tmps) {t : TypeId} {x i : Operand} (hT : TabOk P T) (ho : o.op = .index t x i) : PureSpec P c w H o a (oIndexStr (T.kind t) H (evalO env x) (evalO env i)) := by
  have hx := evalO_rel h x
  have hi := evalO_rel h i
  generalize evalO env x = X at *
  generalize evalO env i = I at *
  unfold oIndexStr
  split
  · rename_i s k j hk
    intro hg
    have ht := kind_str hT hk
    simp only [Bool.and_eq_true, decide_eq_true_eq] at hg
    have hj : j.toNat < s.size := by omega
    have e : s[j.toNat]? = some (s[j.toNat]'hj) := by simp [getElem?_pos, hj]
    have e2 : (s.data.toList.getD j.toNat 0) = s[j.toNat]'hj := by
      rw [List.getD_eq_getElem?_getD, List.getElem?_eq_getElem (by simpa using hj)]
      rfl
    refine ⟨rfl, .int .u8 (s[j.toNat]'hj).toNat, ?_, by rw [e2]; exact .int _ _⟩
    simp [execOp, ho, str_inv hx, int_inv hi, Instr.index, asIntOf, run_underlying ht, hg.1, e, Sem.run_bind, Sem.run_pure]
  · trivial
end
end Go.Proofs.Ytejcniaepjahbaa.Mach
