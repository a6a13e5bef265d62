/- Lengths: sound. -/
import Derived.Test.YtejcniaepjahbaaM10
set_option linter.unusedSimpArgs false
namespace Go.Proofs.Ytejcniaepjahbaa.Mach
open Go
section
variable {P : Program} {T : Tab} {n0 : Nat} {c : Ctx} {H : List HObj} {w : World} {env : Env} {a : Act} {o : Oper}
theorem run_len {t : TypeId} {ts : Array TypeId} {x : Operand} (ho : o.op = .call { callee := .builtin .len, args := #[x], argTypes := ts }) (ht : ts[0]? = some t) {d : TypeDesc} (hd : P.underlying t = some d) {n : Nat}
    (hv : (∃ s, d = .string ∧ a.eval x = .string s ∧ n = s.size) ∨ (∃ e A k, d = .slice e ∧ a.eval x = .slice A n k)) : (execOp a.eval o).run P w = .ok (.value (.int .i64 (n : Int))) w := by
  rcases hv with ⟨s, rfl, hx, rfl⟩ | ⟨e, A, k, rfl, hx⟩
  · simp [execOp, ho, resolve, invoke, builtin, Builtin.len_, ht, hx, run_underlying hd, goInt, Sem.run_bind, Sem.run_pure]
  · simp [execOp, ho, resolve, invoke, builtin, Builtin.len_, ht, hx, run_underlying hd, goInt, Sem.run_bind, Sem.run_pure]
theorem s_len (hH : HR n0 c H w) (h : EnvR c w env a.tmps) (hT : TabOk P T) {t : TypeId} {ts : Array TypeId} {x : Operand} (ho : o.op = .call { callee := .builtin .len, args := #[x], argTypes := ts }) (ht : ts[0]? = some t) :
    PureSpec P c w H o a (lenR (T.kind t) H (evalO env x)) := by
  have hx := evalO_rel h x
  have row : (T.kind t = .slice ∨ T.kind t = .bytes) → PureSpec P c w H o a (lenRow H (evalO env x)) := by
    intro hk
    obtain ⟨e, he⟩ := kind_slice hT hk
    unfold lenRow
    cases hr : isRowV (evalO env x) with
    | false => trivial
    | true =>
      simp only [cond_true]
      cases hn : lenOf H (evalO env x) with
      | none => trivial
      | some n =>
        intro _
        rcases lenOf_rel hH hx hn with ⟨A, cap, hv⟩ | ⟨s, hs, _⟩ | ⟨id, hs⟩
        · exact ⟨rfl, _, run_len ho ht he (.inr ⟨e, A, cap, rfl, hv⟩), .int _ _⟩
        · rw [hs] at hr; simp [isRowV] at hr
        · rw [hs] at hr; simp [isRowV] at hr
  unfold lenR
  split
  · rename_i hk
    have hks := kind_str hT hk
    generalize hX : evalO env x = X at *
    unfold lenStr
    split
    · rename_i s
      intro _
      exact ⟨rfl, _, run_len ho ht hks (.inl ⟨s, rfl, str_inv hx, rfl⟩), .int _ _⟩
    · trivial
  · rename_i hk; exact row (.inl hk)
  · rename_i hk; exact row (.inr hk)
  · trivial
end
end Go.Proofs.Ytejcniaepjahbaa.Mach
