/- Local arrays made; arrays that are handed on stay as they are: sound. -/
import Derived.Test.YtejcniaepjahbaaM14
import Derived.Laws.OwnMore
set_option linter.unusedSimpArgs false
namespace Go.Proofs.Ytejcniaepjahbaa.Mach
open Go
theorem zeroCell_rel {S : Nat → Prop} {w : World} {t : CTy} {v : Value} (h : zeroCell t v = true) : CellR S w t t.dflt v := by
  cases t with
  | int k =>
    cases v <;> simp only [zeroCell, Bool.and_eq_true, decide_eq_true_eq, Bool.false_eq_true] at h
    obtain ⟨rfl, rfl⟩ := h
    simp only [CellR, CTy.dflt]
  | bool =>
    cases v <;> simp only [zeroCell, Bool.false_eq_true] at h
    rename_i b
    cases b
    · simp only [CellR, CTy.dflt]
    · simp at h
  | str =>
    cases v <;> simp only [zeroCell, decide_eq_true_eq, Bool.false_eq_true] at h
    rename_i s
    have : s = ByteArray.empty := by
      apply ByteArray.ext
      apply Array.ext
      · simpa using h
      · intro i h1 h2
        have : s.data.size = 0 := by simpa using h
        omega
    subst this
    simp only [CellR, CTy.dflt]
  | slice e =>
    cases v <;> try (simp [zeroCell] at h; done)
    rename_i A n c
    cases A with
    | some ad => simp [zeroCell] at h
    | none =>
      cases n with
      | succ n => simp [zeroCell] at h
      | zero =>
        cases c with
        | succ c => simp [zeroCell] at h
        | zero =>
          simp only [CellR, CTy.dflt]
          exact ⟨none, 0, rfl, Nat.le_refl _, fun hp => by simp [rowD] at hp⟩
theorem zeroRow_length : ∀ {e : ETy} {l : List Value}, zeroRow e l = true → l.length = e.size
  | .one t, [], h => by simp [zeroRow] at h
  | .one t, [v], h => rfl
  | .one t, _ :: _ :: _, h => by simp [zeroRow] at h
  | .more t e, [], h => by simp [zeroRow] at h
  | .more t e, v :: r, h => by
    simp only [zeroRow, Bool.and_eq_true] at h
    simp [ETy.size, zeroRow_length h.2]
theorem zeroRow_rel {S : Nat → Prop} {w : World} : ∀ {e : ETy} {l : List Value}, zeroRow e l = true → ElemR S w e e.dflt l
  | .one t, [], h => by simp [zeroRow] at h
  | .one t, [v], h => by
    simp only [zeroRow] at h
    simp only [ElemR, ETy.dflt]
    exact ⟨v, rfl, zeroCell_rel h⟩
  | .one t, _ :: _ :: _, h => by simp [zeroRow] at h
  | .more t e, [], h => by simp [zeroRow] at h
  | .more t e, v :: r, h => by
    simp only [zeroRow, Bool.and_eq_true] at h
    simp only [ElemR, ETy.dflt]
    exact ⟨v, r, rfl, zeroCell_rel h.1, zeroRow_rel h.2⟩
theorem ElemR.one {S : Nat → Prop} {w : World} : ∀ {e : ETy} {x : e.D} {vs : List Value}, ElemR S w e x vs → ∀ u ∈ vs, u.oneCell' = true
  | .one t, x, vs, h, u, hu => by
    simp only [ElemR] at h
    obtain ⟨v, rfl, hv⟩ := h
    simp only [List.mem_singleton] at hu
    subst hu
    cases t <;> simp only [CellR] at hv
    · subst hv; rfl
    · subst hv; rfl
    · subst hv; rfl
    · obtain ⟨A, c, rfl, _⟩ := hv; rfl
  | .more t e, x, vs, h, u, hu => by
    simp only [ElemR] at h
    obtain ⟨v, r, rfl, hv, hr⟩ := h
    rcases List.mem_cons.1 hu with rfl | hu
    · cases t <;> simp only [CellR] at hv
      · subst hv; rfl
      · subst hv; rfl
      · subst hv; rfl
      · obtain ⟨A, c, rfl, _⟩ := hv; rfl
    · exact ElemR.one hr u hu
section
variable {P : Program} {T : Tab} {n0 : Nat} {c : Ctx} {H : List HObj} {w : World} {env : Env} {a : Act} {o : Oper}
/-- what the table tells of a slice's type -/
theorem row_spec (hT : TabOk P T) {t : TypeId} {p : ETy × Nat} (h : T.row t = some p) : ∃ (et : TypeId) (i : TypeInfo) (z : Value), P.underlying t = some (.slice et) ∧ P.info? et = some i ∧ i.zero = some z ∧ i.size = p.1.size ∧ z.cells.size = p.1.size ∧
    zeroRow p.1 z.cells.toList = true ∧ p.2 = i.bytes := by
  unfold Tab.row at h
  split at h
  · rename_i x hx
    have hx' := find_ty hT hx
    subst hx'
    unfold rowTy at h
    cases hz : (tyOf P t).ezok with
    | false => rw [hz] at h; simp at h
    | true =>
      rw [hz] at h
      simp only [cond_true] at h
      split at h
      · rename_i e he
        simp only [Option.some.injEq] at h
        subst h
        cases hu : P.underlying t with
        | none => simp [tyOf, hu] at he
        | some d =>
          cases d with
          | slice et =>
            simp only [tyOf, hu] at he hz
            unfold zeroOk at hz
            rw [he] at hz
            cases hi : P.info? et with
            | none => rw [hi] at hz; simp at hz
            | some i =>
              rw [hi] at hz
              simp only at hz
              split at hz
              · rename_i z hzz
                simp only [Bool.and_eq_true, decide_eq_true_eq] at hz
                have hl := zeroRow_length hz.1
                simp only [Array.length_toList] at hl
                refine ⟨et, i, z, rfl, hi, hzz, hz.2.symm.trans hl, hl, hz.1, ?_⟩
                simp [tyOf, hu, Program.bytesOf, hi]
              · simp at hz
          | _ => simp [tyOf, hu] at he
      · simp at h
  · simp at h
/-- cells of a row, all zero -/
theorem zero_cells {S : Nat → Prop} {w' : World} {e : ETy} {z : Array Value} (hz : zeroRow e z.toList = true) (hs : z.size = e.size) (n m : Nat) (hnm : n ≤ m) : RowR S w' e (List.replicate n e.dflt) (madeCells z (m * e.size)).toList := by
  intro i x hx
  rw [List.getElem?_replicate] at hx
  split at hx
  · rename_i hi
    simp only [Option.some.injEq] at hx
    subst hx
    refine ⟨z.toList, zeroRow_rel hz, fun j u hu => ?_⟩
    have hj : j < z.size := by
      have := (List.getElem?_eq_some_iff.1 hu).1
      simpa using this
    have hlt : i * e.size + j < m * e.size := by
      have : (i + 1) * e.size ≤ m * e.size := Nat.mul_le_mul_right _ (by omega)
      rw [Nat.add_mul] at this
      omega
    simp only [madeCells, Array.toList_map, List.getElem?_map, Array.toList_range, List.getElem?_range hlt, Option.map_some, Option.some.injEq]
    have hm : (i * e.size + j) % z.size = j := by
      rw [hs, Nat.mul_comm, Nat.mul_add_mod]
      exact Nat.mod_eq_of_lt (by omega)
    rw [hm]
    have hu' : z[j]? = some u := by simpa using hu
    rw [getElem!_def, hu']
  · simp at hx
/-- a new row behind all blocks -/
theorem push_row (hM : Mem n0 c H w) {w' : World} {e : ETy} {xs : List e.D} {Ty : TypeId} {v : Value} {cells : List Value} (hold : ∀ g, g < w.heap.size → w'.heap[g]? = w.heap[g]?) (hsz : w.heap.size ≤ w'.heap.size)
    (hnew : ∀ g, blk v = some g → w.heap.size ≤ g) (hown : w'.ownsRow n0 Ty e.size v xs.length cells) (hrow : RowR c.S w' e xs cells) :
    Mem n0 (c.more v e.size c.S) (H ++ [.typed e xs false]) w' := by
  refine ⟨hM.obj.push hold hM.stab (fun id g hid hal hb => hM.obj.lt id g hid hal hb) hnew ?_, by have := hM.base; omega, fun g hg => by have := hM.stab g hg; omega, fun g hg hl => hM.old g hg hl⟩
  have hv : (c.more v e.size c.S).m c.n = v := by simp [Ctx.more]
  refine ⟨by simp [Ctx.more], ⟨Ty, cells, by rw [hv]; exact hown, hrow⟩, fun g hg => ⟨fun h => by simp at h, fun _ hS => ?_⟩⟩
  rw [hv] at hg
  have := hnew g hg
  have := hM.stab g hS
  omega
theorem own_new (hM : Mem n0 c H w) {v : Value} {z n k : Nat} {A : Option Addr} {w' : World} (hv : v = .slice A n k) : AVR (c.more v z c.S) w' (.own H.length) v := by
  have hl := hM.obj.len
  rw [hv]
  refine .own (by simp [Ctx.more, hl]) ?_
  rw [← hl]
  simp [Ctx.more]
theorem fits_spec {n b : Nat} (h : fits n b = true) : n ≤ maxLen ∧ n * b ≤ 140737488355328 := by
  unfold fits at h
  cases hb : Nat.ble n 9223372036854775807 with
  | false => rw [hb] at h; simp at h
  | true =>
    rw [hb] at h
    exact ⟨by simpa [maxLen] using (ble_iff _ _).1 hb, (ble_iff _ _).1 h⟩
theorem s_makeSlice (hM : Mem n0 c H w) (h : EnvR c w env a.tmps) (hT : TabOk P T) {t : TypeId} {x y : Operand} (ho : o.op = .makeSlice t x y) : Spec P n0 c w o a (oMakeSlice T H t (evalO env x) (evalO env y)) := by
  have hx := evalO_rel h x
  have hy := evalO_rel h y
  have hrun : ∀ (v : Value) (w' : World), (Instr.makeSlice t (a.eval x) (a.eval y)).run P w = .ok v w' → (execOp a.eval o).run P w = .ok (.value v) w' := by
    intro v w' hh
    simp only [execOp, ho, Sem.run_bind, hh, Result.andThen_ok, Sem.run_pure]
  generalize a.eval x = vx at *
  generalize a.eval y = vy at *
  generalize evalO env x = X at *
  generalize evalO env y = Y at *
  unfold oMakeSlice
  split
  · rename_i p hp
    obtain ⟨et, i, z, h1, h2, h3, h4, h5, h6, h7⟩ := row_spec hT hp
    unfold makeRow
    split
    · rename_i k n
      split
      · rename_i k' m
        obtain rfl := int_inv hx
        obtain rfl := int_inv hy
        intro hg
        simp only [Bool.and_eq_true, decide_eq_true_eq] at hg
        obtain ⟨hf1, hf2⟩ := fits_spec hg.2
        have hmm : ((m.toNat : Nat) : Int) = m := Int.toNat_of_nonneg (by omega)
        have hr := run_make (P := P) w t et i z h1 h2 h3 k k' n m hg.1.1 hg.1.2 (by
          rw [← h7]
          have : ((m.toNat * p.2 : Nat) : Int) ≤ 140737488355328 := by omega
          rw [Int.natCast_mul, hmm, Int.mul_comm] at this
          omega) (by simp only [maxLen] at hf1; omega)
        rw [h4] at hr
        have hold : ∀ g, g < w.heap.size → (w.alloc (.cells (madeCells z.cells (m.toNat * p.1.size)) et)).heap[g]? = w.heap[g]? := fun g hg => heap_alloc_old w _ g hg
        refine ⟨_, _, c.more (.slice (some ⟨w.heap.size, 0, none⟩) n.toNat m.toNat) p.1.size c.S, hrun _ _ hr, Ctx.more_le c _ _ (fun _ h => h), own_new hM rfl, ?_, (RowKit.Below.refl n0 w).alloc hM.base _, fun g hg => hold g (hM.stab g hg)⟩
        refine push_row hM (Ty := et) (cells := (madeCells z.cells (m.toNat * p.1.size)).toList.take (n.toNat * p.1.size)) hold (by simp) (fun g hg => by simp [blk] at hg; omega) ?_ ?_
        · have hle : n.toNat * p.1.size ≤ m.toNat * p.1.size := Nat.mul_le_mul_right _ (by omega)
          refine ⟨?_, .inr ⟨w.heap.size, m.toNat, _, by simp, hM.base, heap_alloc_new w _, by simp; omega, hf1, size_madeCells _ _, by simp⟩⟩
          rw [List.length_take, Array.length_toList, size_madeCells, List.length_replicate]
          omega
        · intro j q hq
          obtain ⟨vs, hv1, hv2⟩ := zero_cells (S := c.S) (w' := w.alloc (.cells (madeCells z.cells (m.toNat * p.1.size)) et)) h6 h5 n.toNat m.toNat (by omega) j q hq
          refine ⟨vs, hv1, fun k' u hu => ?_⟩
          have hj : j < n.toNat := by
            have := (List.getElem?_eq_some_iff.1 hq).1
            simpa using this
          have hk : k' < p.1.size := by
            have := (List.getElem?_eq_some_iff.1 hu).1
            rw [hv1.length] at this
            exact this
          have : (j + 1) * p.1.size ≤ n.toNat * p.1.size := Nat.mul_le_mul_right _ (by omega)
          rw [Nat.add_mul] at this
          rw [List.getElem?_take, if_pos (by omega)]
          exact hv2 k' u hu
      · trivial
    · trivial
  · trivial
end
end Go.Proofs.Ytejcniaepjahbaa.Mach
