/- The operation load, of all that it may find: sound. -/
import Derived.Test.YtejcniaepjahbaaM7
set_option linter.unusedSimpArgs false
namespace Go.Proofs.Ytejcniaepjahbaa.Mach
open Go
section
variable {P : Program} {T : Tab} {n0 : Nat} {c : Ctx} {H : List HObj} {w : World} {env : Env} {a : Act} {o : Oper}
theorem okV_spec {x : Option AV} (h : ∀ y, x = some y → Pure1 P c w o a y) : PureSpec P c w H o a (okV H x) := by
  cases x with
  | none => trivial
  | some y => exact fun _ => ⟨rfl, h y rfl⟩
/-- the cells of a local variable -/
theorem box_cells (hH : HR n0 c H w) {id : Nat} {cs : List AV} (hobj : objAt H id = .box cs) : ∃ (g : Nat) (arr : Array Value), c.m id = .pointer (some ⟨g, 0, none⟩) ∧
    ∀ (j : Nat) (x : AV), cs[j]? = some x → w.cell? ⟨g, j, none⟩ = some (arr.getD j default) ∧ AVR c w x (arr.getD j default) := by
  have := hH.obj id (objAt_lt (by rw [hobj]; simp))
  rw [hobj] at this
  obtain ⟨g, Ty, arr, h1, h2, h3, h4, h5, h6⟩ := this
  refine ⟨g, arr, h1, fun j x hx => ⟨?_, h5 j x hx⟩⟩
  have hj : j < cs.length := by
    by_cases h : j < cs.length
    · exact h
    · rw [List.getElem?_eq_none (by omega)] at hx; simp at hx
  rw [cell_of_row w g j arr Ty (0, 0) h3]
  simp [Array.getD_eq_getD_getElem?, Array.getElem?_eq_getElem (show j < arr.size by omega)]
/-- the cells of an element of a local array -/
theorem elem_cells (hH : HR n0 c H w) {id : Nat} {e : ETy} {xs : List e.D} {fz : Bool} (hobj : objAt H id = .typed e xs fz) {g n k : Nat} (hm : c.m id = .slice (some ⟨g, 0, none⟩) n k) {i : Nat} (hi : i < n) :
    n = xs.length ∧ ∀ (j : Nat) (x : AV), (elemCells e (xs.getD i e.dflt))[j]? = some x → ∃ u, w.cell? ⟨g, i * e.size + j, none⟩ = some u ∧ AVR c w x u := by
  have := hH.obj id (objAt_lt (by rw [hobj]; simp))
  rw [hobj] at this
  obtain ⟨hz, ⟨Ty, cells, hown, hrow⟩, _⟩ := this
  have hn : n = xs.length := by
    rcases hown.2 with ⟨hv, h0⟩ | ⟨g', cap, cur, hv, _⟩
    · rw [hm] at hv; simp at hv
    · rw [hm] at hv; simp at hv; omega
  refine ⟨hn, fun j x hx => ?_⟩
  have hget : xs[i]? = some (xs.getD i e.dflt) := by
    rw [List.getD_eq_getElem?_getD, List.getElem?_eq_getElem (by omega)]; rfl
  obtain ⟨vs, hvs, hc⟩ := hrow i _ hget
  obtain ⟨h1, h2⟩ := elem_rel hvs j x hx
  refine ⟨_, ?_, h2⟩
  have := hown.cells (g := g) (by rw [hm]; rfl) _ _ (hc j _ h1)
  rw [add_at, Nat.zero_add] at this
  exact this
theorem s_load (hH : HR n0 c H w) (h : EnvR c w env a.tmps) (hT : TabOk P T) {t : TypeId} {x : Operand} (ho : o.op = .load t x) : PureSpec P c w H o a (loadR T H t (evalO env x)) := by
  have hx := evalO_rel h x
  generalize hv : a.eval x = vx at *
  generalize evalO env x = X at *
  have fin : ∀ {g o' : Nat} {cs : List AV}, vx = .pointer (some ⟨g, o', none⟩) → (∀ (j : Nat) (x : AV), cs[j]? = some x → ∃ u, w.cell? ⟨g, o' + j, none⟩ = some u ∧ AVR c w x u) → PureSpec P c w H o a (okV H (whole T t cs)) := by
    intro g o' cs hp hc
    refine okV_spec fun y hy => ?_
    obtain ⟨v, hrun, hr⟩ := load_cells (c := c) (w := w) hT hy (g := g) (o := o') (fun j => (w.cell? ⟨g, o' + j, none⟩).getD default) (fun j x hx => by
      obtain ⟨u, h1, h2⟩ := hc j x hx
      rw [h1]; exact ⟨rfl, h2⟩)
    refine ⟨v, ?_, hr⟩
    simp only [execOp, ho, hv, hp, Sem.run_bind, hrun, Result.andThen_ok, Sem.run_pure]
  unfold loadR
  split
  · rename_i id off
    split
    · rename_i cs hobj
      generalize hvx : vx = vy at hx
      cases hx with
      | ptr hb hm =>
        obtain ⟨g', arr, h1, h2⟩ := box_cells hH hobj
        rw [hm] at h1
        simp only [Value.pointer.injEq, Option.some.injEq, Addr.mk.injEq, and_true] at h1
        subst h1
        refine fin hvx fun j x hx => ?_
        rw [List.getElem?_drop] at hx
        exact ⟨_, h2 _ x hx⟩
    · trivial
  · rename_i id i off
    split
    · rename_i e xs fz hobj
      generalize hvx : vx = vy at hx
      cases hx with
      | elt hb hm h0 h1 h2 =>
        obtain ⟨_, _, _, _, hz, _⟩ := typed_head hH hobj
        obtain ⟨_, h4⟩ := elem_cells hH hobj hm (i := i.toNat) (by omega)
        refine fin hvx fun j x hx => ?_
        rw [List.getElem?_drop] at hx
        obtain ⟨u, h5, h6⟩ := h4 _ x hx
        refine ⟨u, ?_, h6⟩
        rw [hz, Nat.add_assoc]
        exact h5
    · trivial
  · rename_i cs
    generalize hvx : vx = vy at hx
    cases hx with
    | adr hg u h1 h2 => exact fin hvx fun j x hx => ⟨u j, h1 j x hx, h2 j x hx⟩
  · trivial
end
end Go.Proofs.Ytejcniaepjahbaa.Mach
