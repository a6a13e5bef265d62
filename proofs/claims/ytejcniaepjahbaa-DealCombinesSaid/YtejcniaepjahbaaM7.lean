/- Loads: sound. -/
import Derived.Test.YtejcniaepjahbaaM6
import Derived.Deep.MidRow
set_option linter.unusedSimpArgs false
namespace Go.Proofs.Ytejcniaepjahbaa.Mach
open Go
theorem ble_iff (m n : Nat) : Nat.ble m n = true ↔ m ≤ n := by simp [Nat.ble_eq]
theorem load_cells {P : Program} {T : Tab} {c : Ctx} {w : World} (hT : TabOk P T) {t : TypeId} {cs : List AV} {y : AV} (hy : whole T t cs = some y) {g o : Nat} (u : Nat → Value)
    (hu : ∀ (j : Nat) (x : AV), cs[j]? = some x → w.cell? ⟨g, o + j, none⟩ = some (u j) ∧ AVR c w x (u j)) :
    ∃ v, (Instr.loadAt t (.pointer (some ⟨g, o, none⟩))).run P w = .ok v w ∧ AVR c w y v := by
  unfold whole at hy
  split at hy
  · rename_i x hf
    have hx := hT.ty _ _ hf
    subst hx
    cases hok : (tyOf P t).okay with
    | false => rw [hok] at hy; simp at hy
    | true =>
      rw [hok] at hy
      simp only [cond_true] at hy
      have hok' : (P.underlying t).isSome = true ∧ (P.info? t).isSome = true := by simpa [tyOf] using hok
      obtain ⟨d, hd⟩ := Option.isSome_iff_exists.1 hok'.1
      obtain ⟨i, hi⟩ := Option.isSome_iff_exists.1 hok'.2
      have hsz : (tyOf P t).size = i.size := by simp [tyOf, Program.cellsOf, hi]
      have hag : (tyOf P t).agg = d.isRow := by
        simp only [tyOf, hd]
        cases d <;> rfl
      unfold wholeX at hy
      rw [hag, hsz] at hy
      have one : d.isRow = false → ∃ v, (Instr.loadAt t (.pointer (some ⟨g, o, none⟩))).run P w = .ok v w ∧ AVR c w y v := by
        intro hf
        rw [hf] at hy
        simp only [cond_false] at hy
        cases cs with
        | nil => simp at hy
        | cons z r =>
          simp only [Option.some.injEq] at hy
          subst hy
          obtain ⟨h1, h2⟩ := hu 0 z rfl
          refine ⟨u 0, ?_, h2⟩
          have hagg : (isAgg t).run P w = .ok false w := by
            cases d <;> first
              | (simp [isAgg, run_underlying hd, Sem.run_bind, Sem.run_pure]; done)
              | simp [TypeDesc.isRow] at hf
          simp [Instr.loadAt, Instr.sureAddr, loadVar, hagg, load, Sem.run_bind, Sem.run_pure, Sem.run, show w.cell? ⟨g, o, none⟩ = some (u 0) from h1]
      have many : d.isRow = true → ∃ v, (Instr.loadAt t (.pointer (some ⟨g, o, none⟩))).run P w = .ok v w ∧ AVR c w y v := by
        intro hrow
        rw [hrow] at hy
        simp only [cond_true] at hy
        cases hb : Nat.ble i.size cs.length with
        | false => rw [hb] at hy; simp at hy
        | true =>
          rw [hb] at hy
          simp only [cond_true, Option.some.injEq] at hy
          subst hy
          have hle := (ble_iff _ _).1 hb
          have hvs : ∀ (j : Nat) (v : Value), ((List.range i.size).map u)[j]? = some v → j < i.size ∧ v = u j := by
            intro j v hv
            rw [List.getElem?_map, Option.map_eq_some_iff] at hv
            obtain ⟨k, hk, rfl⟩ := hv
            by_cases hj : j < i.size
            · rw [List.getElem?_range hj] at hk
              simp only [Option.some.injEq] at hk
              subst hk
              exact ⟨hj, rfl⟩
            · rw [List.getElem?_eq_none (by simp; omega)] at hk
              simp at hk
          have hcell : ∀ j, j < i.size → ∃ x, cs[j]? = some x := fun j hj => ⟨_, List.getElem?_eq_getElem (by omega)⟩
          have hload := run_loadVar_mid (P := P) w g o t ((List.range i.size).map u) d (fun j v hv => by
            obtain ⟨hj, rfl⟩ := hvs j v hv
            obtain ⟨x, hx⟩ := hcell j hj
            exact (hu j x hx).1) hd hrow (by simp [hi])
          refine ⟨.agg ((List.range i.size).map u).toArray, ?_, .agg (u := u) (by simp; omega) (fun j x hx => ?_) (fun j x hx => ?_)⟩
          · simp only [Instr.loadAt, Instr.sureAddr, Sem.run_bind]
            exact hload
          · have hj : j < i.size := by
              by_cases h : j < i.size
              · exact h
              · rw [List.getElem?_take, if_neg h] at hx; simp at hx
            simp [hj]
          · have hx' : cs[j]? = some x := by
              rw [List.getElem?_take] at hx
              split at hx
              · exact hx
              · simp at hx
            exact (hu j x hx').2
      cases d <;> first
        | exact many rfl
        | exact one rfl
  · simp at hy
end Go.Proofs.Ytejcniaepjahbaa.Mach
