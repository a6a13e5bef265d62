/- The table is the program's. -/
import Derived.Test.YtejcniaepjahbaaM0T
import Derived.Test.YtejcniaepjahbaaM20
import Derived.Test.YtejcniaepjahbaaM32
import Derived.KernelRfl
namespace Go.Proofs.Ytejcniaepjahbaa.Mach
open Go
theorem find_some {α : Type} {l : List (Nat × α)} {n : Nat} {x : α} (h : find l n = some x) : (n, x) ∈ l := by
  induction l with
  | nil => simp [find] at h
  | cons p l ih =>
    have h' : (Bool.rec (motive := fun _ => Option α) (find l n) (some p.2) (Nat.beq p.1 n)) = some x := h
    cases hb : Nat.beq p.1 n with
    | false =>
      rw [hb] at h'
      exact List.mem_cons_of_mem _ (ih h')
    | true =>
      rw [hb] at h'
      have h1 := Nat.eq_of_beq_eq_true hb
      have h2 : p.2 = x := Option.some.inj h'
      rw [← h1, ← h2]
      exact List.mem_cons_self
theorem map_self {α : Type} {f : α → α} : ∀ {l : List α}, l.map f = l → ∀ x ∈ l, f x = x
  | [], _, x, hx => by cases hx
  | y :: l, h, x, hx => by
    simp only [List.map_cons, List.cons.injEq] at h
    rcases List.mem_cons.1 hx with rfl | hx
    · exact h.1
    · exact map_self h.2 x hx
theorem map_same {α β : Type} {f g : α → β} : ∀ {l : List α}, l.map f = l.map g → ∀ x ∈ l, f x = g x
  | [], _, x, hx => by cases hx
  | y :: l, h, x, hx => by
    simp only [List.map_cons, List.cons.injEq] at h
    rcases List.mem_cons.1 hx with rfl | hx
    · exact h.1
    · exact map_same h.2 x hx
set_option maxRecDepth 10000000 in
theorem tys_eq : tys.map (fun p => (p.1, tyOf Try.prog p.1)) = tys := by kernel_rfl
set_option maxRecDepth 100000 in
theorem funs_eq : funs.map (fun p => Try.prog.funcs[p.1]?) = funs.map (fun p => some p.2) := by kernel_rfl
def hasBody (fn : Func) : Bool := match fn.body with | some _ => !(fn.name == "runtime.NumGoroutine") | none => false
set_option maxRecDepth 100000 in
theorem funs_ok : (funs.all fun p => hasBody p.2) = true := by kernel_rfl
def fnT (fn : Func) : FnT := ⟨fn.body.getD .skip, fn.ntmps, fn.results.toList⟩
set_option maxRecDepth 100000 in
theorem fns_eq : fns = funs.map (fun p => (p.1, fnT p.2)) := by kernel_rfl
theorem fnOf_eq {P : Program} {f : FuncId} {fn : Func} (h : P.funcs[f]? = some fn) (hb : hasBody fn = true) : fnOf P f = some (fnT fn) := by
  unfold fnOf
  rw [h]
  simp only
  unfold hasBody at hb
  cases hc : fn.body with
  | none => rw [hc] at hb; simp at hb
  | some c =>
    rw [hc] at hb
    simp only [Bool.not_eq_true'] at hb
    simp [hb, fnT, hc]
theorem tabOk : TabOk Try.prog tab where
  ty t x h := by
    have h1 := map_self tys_eq _ (find_some (show find tys t = some x from h))
    exact (Prod.mk.inj h1).2.symm
  fn f x h := by
    have h1 := find_some (show find fns f = some x from h)
    rw [fns_eq, List.mem_map] at h1
    obtain ⟨p, hp, h2⟩ := h1
    simp only [Prod.mk.injEq] at h2
    obtain ⟨rfl, rfl⟩ := h2
    exact fnOf_eq (map_same funs_eq _ hp) (List.all_eq_true.1 funs_ok _ hp)
  ext f h := by
    exact absurd (show none = some 1 from h) (by simp)
end Go.Proofs.Ytejcniaepjahbaa.Mach
