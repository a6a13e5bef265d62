/- Addresses of elements and fields, and what is loaded from them: sound. -/
import Derived.Test.YtejcniaepjahbaaM5
set_option linter.unusedSimpArgs false
namespace Go.Proofs.Ytejcniaepjahbaa.Mach
open Go
theorem cell_rel {c : Ctx} {w : World} {t : CTy} {x : t.D} {v : Value} (h : CellR c.S w t x v) : AVR c w (cellAV t x) v := by
  cases t with
  | int k => simp only [CellR] at h; subst h; exact .int k x
  | bool => simp only [CellR] at h; subst h; exact .bool x
  | str => simp only [CellR] at h; subst h; exact .str x
  | slice e => exact .imm h
theorem elem_rel {c : Ctx} {w : World} : ∀ {e : ETy} {x : e.D} {vs : List Value}, ElemR c.S w e x vs → ∀ (j : Nat) (y : AV), (elemCells e x)[j]? = some y → vs[j]? = some (vs.getD j default) ∧ AVR c w y (vs.getD j default)
  | .one t, x, vs, h, j, y, hy => by
    simp only [ElemR] at h
    obtain ⟨v, rfl, hv⟩ := h
    simp only [elemCells] at hy
    cases j with
    | zero =>
      simp only [List.getElem?_cons_zero, Option.some.injEq] at hy
      subst hy
      exact ⟨rfl, cell_rel hv⟩
    | succ j => simp at hy
  | .more t e, x, vs, h, j, y, hy => by
    simp only [ElemR] at h
    obtain ⟨v, r, rfl, hv, hr⟩ := h
    simp only [elemCells] at hy
    cases j with
    | zero =>
      simp only [List.getElem?_cons_zero, Option.some.injEq] at hy
      subst hy
      exact ⟨rfl, cell_rel hv⟩
    | succ j =>
      simp only [List.getElem?_cons_succ] at hy
      obtain ⟨h1, h2⟩ := elem_rel hr j y hy
      exact ⟨by simpa using h1, by simpa using h2⟩
section
variable {P : Program} {T : Tab} {n0 : Nat} {c : Ctx} {H : List HObj} {w : World} {env : Env} {a : Act} {o : Oper}
theorem run_at {t : TypeId} {x y : Operand} (ho : o.op = .indexAddr t x y) {e : TypeId} {i : TypeInfo} (ht : P.underlying t = some (.slice e)) (hi : P.info? e = some i) {ad : Addr} {n cap : Nat} {k : IntKind} {j : Int}
    (hx : a.eval x = .slice (some ad) n cap) (hy : a.eval y = .int k j) (h0 : 0 ≤ j) (h1 : j < (n : Int)) : (execOp a.eval o).run P w = .ok (.value (.pointer (some (ad.add (j.toNat * i.size))))) w := by
  simp only [execOp, ho, hx, hy]
  simp [Instr.indexAt, asIntOf, run_underlying ht, sizeOf, typeInfo, hi, h0, h1, Sem.run_bind, Sem.run_pure]
theorem s_indexN (hH : HR n0 c H w) (h : EnvR c w env a.tmps) (hT : TabOk P T) {t : TypeId} {x y : Operand} (ho : o.op = .indexAddr t x y) (hk : T.kind t = .slice ∨ T.kind t = .bytes) (hs : szOk H (T.esize t) (evalO env x) = true) {k : IntKind} {j : Int} (hy : a.eval y = .int k j) :
    PureSpec P c w H o a (indexN H (evalO env x) j) := by
  obtain ⟨et, i, ht, hi, hsz⟩ := slice_type hT hk (szOk_pos hs)
  have hx := evalO_rel h x
  generalize hv : a.eval x = vx at *
  generalize evalO env x = X at *
  unfold indexN
  split
  · rename_i e l
    intro hg
    simp only [Bool.and_eq_true, decide_eq_true_eq] at hg
    have hes := Nat.eq_of_beq_eq_true (show Nat.beq e.size (T.esize t) = true from hs)
    cases hx with
    | imm hc =>
      simp only [CellR] at hc
      obtain ⟨A, cap, rfl, hle, hcell⟩ := hc
      have hqn : (rowD l).length = l.length := rfl
      rw [hqn] at hle hcell
      rw [hqn] at hv
      obtain ⟨g, o', rfl, hgS, hel⟩ := hcell (by omega)
      have hj : j.toNat < l.length := by omega
      have hget : (rowD l)[j.toNat]? = some (l.getD j.toNat e.dflt) := by
        show l[j.toNat]? = _
        rw [List.getD_eq_getElem?_getD, List.getElem?_eq_getElem hj]; rfl
      obtain ⟨vs, hvs, hc2⟩ := hel _ _ hget
      refine ⟨rfl, _, run_at ho ht hi hv hy hg.1 hg.2, ?_⟩
      rw [add_at, hsz, ← hes]
      exact .adr hgS (fun m => vs.getD m default) (fun m z hz => hc2 m _ (elem_rel hvs m z hz).1) (fun m z hz => (elem_rel hvs m z hz).2)
  · rename_i id
    split
    · rename_i e xs fz hobj
      intro hg
      simp only [Bool.and_eq_true, decide_eq_true_eq] at hg
      have hes := Nat.eq_of_beq_eq_true (show Nat.beq e.size (T.esize t) = true by simpa [szOk, hobj] using hs)
      cases hx with
      | own hb hm =>
        obtain ⟨A, cap, h3, h4, h5, h6⟩ := typed_head hH hobj
        obtain ⟨g, rfl⟩ := h6 (by omega)
        refine ⟨rfl, _, run_at ho ht hi (hv.trans (hm.symm.trans h3)) hy hg.1 hg.2, ?_⟩
        rw [add_at, hsz, ← hes, ← h5, Nat.zero_add]
        have := AVR.elt (w := w) (off := 0) hb h3 hg.1 hg.2 (by rw [h5]; exact e.size_pos)
        simpa using this
    · trivial
  · rename_i id off n
    intro hg
    simp only [Bool.and_eq_true, decide_eq_true_eq] at hg
    cases hx with
    | win hb hm h3 h4 h5 =>
      obtain ⟨g, rfl, rfl⟩ := h5 (by omega)
      have hes : T.esize t = c.z id := by
        cases hobj : objAt H id with
        | typed e xs fz =>
          have hes := Nat.eq_of_beq_eq_true (show Nat.beq e.size (T.esize t) = true by simpa [szOk, hobj] using hs)
          obtain ⟨_, _, _, _, h7, _⟩ := typed_head hH hobj
          rw [h7, hes]
        | box cs => simp [szOk, hobj] at hs
        | dead => simp [szOk, hobj] at hs
      have hpos : 0 < c.z id := by rw [← hes]; exact szOk_pos hs
      refine ⟨rfl, _, run_at ho ht hi hv hy hg.1 hg.2, ?_⟩
      rw [add_at, hsz, hes]
      have := AVR.elt (w := w) (i := (off : Int) + j) (off := 0) hb hm (by omega) (by omega) hpos
      rw [show ((off : Int) + j).toNat = off + j.toNat by omega, Nat.add_mul] at this
      simpa using this
  · trivial
end
end Go.Proofs.Ytejcniaepjahbaa.Mach
