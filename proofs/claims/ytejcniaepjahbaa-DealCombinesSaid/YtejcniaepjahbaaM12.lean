/- Addresses of fields: sound. -/
import Derived.Test.YtejcniaepjahbaaM11
set_option linter.unusedSimpArgs false
namespace Go.Proofs.Ytejcniaepjahbaa.Mach
open Go
theorem nth_get {α : Type} (l : List α) (i : Nat) : nth l i = l[i]? := by
  induction l generalizing i with
  | nil => rfl
  | cons x l ih =>
    cases i with
    | zero => rfl
    | succ n => exact (ih n).trans (by simp)
theorem field_type {P : Program} {T : Tab} (hT : TabOk P T) {s : TypeId} {f : Nat} {q : Nat × TypeId} (h : fieldOff T s f = some q) :
    ∃ (fs : Array Field) (fl : Field) (i : TypeInfo), P.underlying s = some (.struct fs) ∧ fs[f]? = some fl ∧ q = (fl.offset, fl.type) ∧ P.info? fl.type = some i ∧ 0 < i.size := by
  unfold fieldOff at h
  split at h
  · rename_i x hx
    have := hT.ty _ _ hx
    subst this
    split at h
    · rename_i p hp
      rw [nth_get] at hp
      unfold bigTy at h
      split at h
      · rename_i y hy
        have := hT.ty _ _ hy
        subst this
        cases hb : Nat.blt 0 (tyOf P p.2).size with
        | false => rw [hb] at h; simp at h
        | true =>
          rw [hb] at h
          simp only [cond_true, Option.some.injEq] at h
          subst h
          have hpos := (blt_iff _ _).1 hb
          simp only [tyOf, Program.cellsOf] at hpos
          cases hi : P.info? p.2 with
          | none => rw [hi] at hpos; simp at hpos
          | some i =>
            rw [hi] at hpos
            simp only [tyOf] at hp
            cases hu : P.underlying s with
            | none => rw [hu] at hp; simp at hp
            | some d =>
              rw [hu] at hp
              cases d with
              | struct fs =>
                simp only [List.getElem?_map, Option.map_eq_some_iff] at hp
                obtain ⟨fl, h1, h2⟩ := hp
                subst h2
                exact ⟨fs, fl, i, rfl, by simpa using h1, rfl, hi, by simpa using hpos⟩
              | _ => simp at hp
      · simp at h
    · simp at h
  · simp at h
section
variable {P : Program} {T : Tab} {n0 : Nat} {c : Ctx} {H : List HObj} {w : World} {env : Env} {a : Act} {o : Oper}
theorem s_fieldAddr (hH : HR n0 c H w) (h : EnvR c w env a.tmps) (hT : TabOk P T) {t : TypeId} {x : Operand} {f : Nat} (ho : o.op = .fieldAddr t x f) : PureSpec P c w H o a (oFieldAddr T H t (evalO env x) f) := by
  have hx := evalO_rel h x
  have run : ∀ {q : Nat × TypeId}, fieldOff T t f = some q → ∀ {g o' : Nat}, a.eval x = .pointer (some ⟨g, o', none⟩) → (execOp a.eval o).run P w = .ok (.value (.pointer (some ⟨g, o' + q.1, none⟩))) w := by
    intro q hq g o' hv
    obtain ⟨fs, fl, i, h1, h2, rfl, h3, h4⟩ := field_type hT hq
    have h5 : ¬ i.size = 0 := by omega
    simp [execOp, ho, hv, Instr.fieldAt, Instr.sureAddr, fieldPlace, run_underlying h1, h2, sizeOf, typeInfo, h3, h5, add_at, Sem.run_bind, Sem.run_pure]
  generalize hv : a.eval x = vx at *
  generalize evalO env x = X at *
  unfold oFieldAddr
  split
  · rename_i id off o' u hq
    intro _
    generalize hvx : vx = vy at hx
    cases hx with
    | ptr hb hm => exact ⟨rfl, _, run hq hvx, .ptr hb hm⟩
  · rename_i id i off o' u hq
    split
    · rename_i e xs fz hobj
      intro hg
      generalize hvx : vx = vy at hx
      cases hx with
      | elt hb hm h0 h1 h2 =>
        obtain ⟨_, _, _, _, hz, _⟩ := typed_head hH hobj
        refine ⟨rfl, _, run hq hvx, ?_⟩
        rw [Nat.add_assoc]
        exact .elt hb hm h0 h1 (by rw [hz]; exact (blt_iff _ _).1 hg)
    · trivial
  · rename_i cs o' u hq
    intro _
    generalize hvx : vx = vy at hx
    cases hx with
    | adr hg u h1 h2 =>
      rename_i g o2
      refine ⟨rfl, _, run hq hvx, .adr hg (fun j => u (o' + j)) (fun j y hy => ?_) (fun j y hy => ?_)⟩
      · rw [List.getElem?_drop] at hy
        rw [Nat.add_assoc]
        exact h1 _ y hy
      · rw [List.getElem?_drop] at hy
        exact h2 _ y hy
  · trivial
end
end Go.Proofs.Ytejcniaepjahbaa.Mach
