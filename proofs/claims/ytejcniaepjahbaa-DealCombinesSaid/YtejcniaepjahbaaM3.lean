/- The local objects against the model's memory; further operations that leave the memory as it is. -/
import Derived.Test.YtejcniaepjahbaaM2
set_option linter.unusedSimpArgs false
namespace Go.Proofs.Ytejcniaepjahbaa.Mach
open Go
def blk : Value → Option Nat
  | .slice (some a) _ _ => some a.block
  | .pointer (some a) => some a.block
  | _ => none
theorem blk_own (v : Value) (n c : Nat) (A : Option Addr) (h : v = .slice A n c) : blk v = v.ownBlock := by subst h; cases A <;> rfl
/-- the cells of a row of elements -/
def RowR (S : Nat → Prop) (w : World) (e : ETy) (xs : List e.D) (cells : List Value) : Prop :=
  ∀ (i : Nat) (x : e.D), xs[i]? = some x → ∃ vs, ElemR S w e x vs ∧ ∀ (j : Nat) (u : Value), vs[j]? = some u → cells[i * e.size + j]? = some u
/-- a local object: what the executor holds of it, against the memory; blocks from n0 on are ours -/
def ObjR (n0 : Nat) (c : Ctx) (w : World) (id : Nat) : HObj → Prop
  | .typed e xs fz => c.z id = e.size ∧ (∃ T cells, w.ownsRow n0 T e.size (c.m id) xs.length cells ∧ RowR c.S w e xs cells) ∧
      ∀ g, blk (c.m id) = some g → (fz = true → c.S g) ∧ (fz = false → ¬ c.S g)
  | .box cs => ∃ (g : Nat) (T : TypeId) (arr : Array Value), c.m id = .pointer (some ⟨g, 0, none⟩) ∧ n0 ≤ g ∧ w.heap[g]? = some (.cells arr T (0, 0)) ∧ arr.size = cs.length ∧
      (∀ (j : Nat) (x : AV), cs[j]? = some x → AVR c w x (arr.getD j default)) ∧ ¬ c.S g
  | .dead => True
def alive : HObj → Bool
  | .dead => false
  | _ => true
structure HR (n0 : Nat) (c : Ctx) (H : List HObj) (w : World) : Prop where
  len : c.n = H.length
  obj : ∀ id, id < H.length → ObjR n0 c w id (objAt H id)
  dist : ∀ i j g, i < H.length → j < H.length → i ≠ j → alive (objAt H i) = true → alive (objAt H j) = true → blk (c.m i) = some g → blk (c.m j) ≠ some g
theorem objAt_get (H : List HObj) (id : Nat) : objAt H id = (H[id]?).getD .dead := by
  induction H generalizing id with
  | nil => rfl
  | cons x H ih =>
    cases id with
    | zero => rfl
    | succ n => exact (ih n).trans (by simp)
theorem objAt_lt {H : List HObj} {id : Nat} (h : objAt H id ≠ .dead) : id < H.length := by
  rw [objAt_get] at h
  by_cases hl : id < H.length
  · exact hl
  · rw [List.getElem?_eq_none (by omega)] at h; simp at h
theorem typed_head {n0 : Nat} {c : Ctx} {H : List HObj} {w : World} (h : HR n0 c H w) {id : Nat} {e : ETy} {xs : List e.D} {fz : Bool} (ho : objAt H id = .typed e xs fz) :
    ∃ A cap, c.m id = .slice A xs.length cap ∧ xs.length ≤ cap ∧ c.z id = e.size ∧ (0 < xs.length → ∃ g, A = some ⟨g, 0, none⟩) := by
  have hlt := objAt_lt (H := H) (id := id) (by rw [ho]; simp)
  have := h.obj id hlt
  rw [ho] at this
  obtain ⟨hz, ⟨T, cells, hown, _⟩, _⟩ := this
  rcases hown.2 with ⟨hv, hn⟩ | ⟨g, cap, cur, hv, _, _, hc, _⟩
  · exact ⟨none, 0, by rw [hv, hn], by omega, hz, fun hp => by omega⟩
  · exact ⟨_, cap, hv, hc, hz, fun _ => ⟨g, rfl⟩⟩
/-- the length that a value tells -/
theorem lenOf_rel {n0 : Nat} {c : Ctx} {H : List HObj} {w : World} (h : HR n0 c H w) {x : AV} {v : Value} (hx : AVR c w x v) {n : Nat} (hn : lenOf H x = some n) :
    (∃ A cap, v = .slice A n cap) ∨ (∃ s, x = .str s ∧ v = .string s ∧ n = s.size) ∨ (∃ id, x = .parr id) := by
  cases x <;> simp only [lenOf] at hn <;> try (simp at hn; done)
  · cases hx; exact .inr (.inl ⟨_, rfl, rfl, (Option.some.inj hn).symm⟩)
  · cases hx with | imm hc =>
    simp only [CellR] at hc
    obtain ⟨A, cp, hv, _⟩ := hc
    refine .inl ⟨A, cp, ?_⟩
    rw [hv, ← Option.some.inj hn]; rfl
  · cases hx with | own hb hm =>
    split at hn
    · rename_i e xs fz ho
      obtain ⟨A, cap, h1, _⟩ := typed_head h ho
      exact .inl ⟨A, cap, by rw [← hm, h1, ← Option.some.inj hn]⟩
    · simp at hn
  · cases hx; exact .inl ⟨_, _, by rw [← Option.some.inj hn]⟩
  · cases hx; exact .inl ⟨_, _, by rw [← Option.some.inj hn]⟩
  · exact .inr (.inr ⟨_, rfl⟩)
theorem s_bin {P : Program} {T : Tab} (hT : TabOk P T) {n0 : Nat} {c : Ctx} {w : World} {env : Env} {a : Act} (h : EnvR c w env a.tmps) (H : List HObj) (hH : HR n0 c H w) {o : Oper} {op : BinOp} {t u : TypeId} {x y : Operand} (ho : o.op = .binOp op t x y u) :
    PureSpec P c w H o a (binR (T.kind t) H op (evalO env x) (evalO env y)) := by
  have hx := evalO_rel h x
  have hy := evalO_rel h y
  have hb := fun v hg => @run_bin P w o a op t u x y ho v hg
  generalize evalO env x = X at *
  generalize evalO env y = Y at *
  generalize a.eval x = vx at *
  generalize a.eval y = vy at *
  unfold binR
  split
  · rename_i k m k' n
    obtain rfl := int_inv hx
    obtain rfl := int_inv hy
    have hgd : (eqGuard op t x y (.int k m) (.int k' n)).run P w = .ok () w := guard_plain op t x y _ _ (by simp) (by simp)
    split
    · intro hg
      simp only [intOp, decide_eq_true_eq] at hg
      refine ⟨rfl, _, hb _ hgd ?_, .int _ _⟩
      simp [binOp, Op.shift, show ¬ n < 0 by omega, Sem.run, pure]
    · intro hg
      simp only [intOp, decide_eq_true_eq] at hg
      refine ⟨rfl, _, hb _ hgd ?_, .int _ _⟩
      simp [binOp, Op.shift, show ¬ n < 0 by omega, Sem.run, pure]
    · rename_i h1 h2
      split
      · rename_i hk
        have hk' : k = k' := by simpa using hk
        subst hk'
        intro hg
        obtain ⟨v, hv, hr⟩ := intOp_run (P := P) (c := c) (w := w) op t k m n hg ⟨h1, h2⟩
        exact ⟨rfl, v, hb _ hgd hv, hr⟩
      · trivial
  · rename_i m n
    obtain rfl := str_inv hx
    obtain rfl := str_inv hy
    intro hg
    obtain ⟨v, hv, hr⟩ := strOp_run (P := P) (c := c) (w := w) op t m n hg
    exact ⟨rfl, v, hb _ (guard_plain op t x y _ _ (by simp) (by simp)) hv, hr⟩
  · rename_i m n
    obtain rfl := bool_inv hx
    obtain rfl := bool_inv hy
    have hgd : (eqGuard op t x y (.bool m) (.bool n)).run P w = .ok () w := guard_plain op t x y _ _ (by simp) (by simp)
    split
    · rename_i hk
      intro _
      refine ⟨rfl, _, hb _ hgd ?_, .bool _⟩
      simp only [binOp, Op.equal, Sem.run_bind, show Op.maxDepth = 9999 + 1 from rfl, run_equalIn_bool' w 9999 t m n (kind_bool hT hk), Result.andThen_ok, Sem.run_pure]
    · rename_i hk
      intro _
      refine ⟨rfl, _, hb _ hgd ?_, .bool _⟩
      simp only [binOp, Op.equal, Sem.run_bind, show Op.maxDepth = 9999 + 1 from rfl, run_equalIn_bool' w 9999 t m n (kind_bool hT hk), Result.andThen_ok, Sem.run_pure]
    · trivial
  · cases hx
    cases hy
    have hgd : (eqGuard op t x y (.slice none 0 0) (.slice none 0 0)).run P w = .ok () w := guard_plain op t x y _ _ (by simp) (by simp)
    have heq : (∃ e, P.underlying t = some (.slice e)) → (Op.equal t (.slice none 0 0) (.slice none 0 0)).run P w = .ok true w := by
      rintro ⟨e, he⟩
      show (Op.equalIn (9999 + 1) t (.slice none 0 0) (.slice none 0 0)).run P w = .ok true w
      unfold Op.equalIn
      simp [Sem.run_bind, run_underlying he, Result.andThen_ok, Sem.run_pure]
    split <;> rename_i hk <;> first
      | trivial
      | (intro _
         refine ⟨rfl, _, hb _ hgd ?_, .bool _⟩
         first
         | simp only [binOp, Sem.run_bind, heq (kind_slice hT (.inl hk)), Result.andThen_ok, Sem.run_pure, Bool.not_true]
         | simp only [binOp, Sem.run_bind, heq (kind_slice hT (.inr hk)), Result.andThen_ok, Sem.run_pure, Bool.not_true])
  · cases hx
    cases hy
    have hgd : (eqGuard op t x y (.pointer none) (.pointer none)).run P w = .ok () w := guard_plain op t x y _ _ (by simp) (by simp)
    have heq : (∃ e, P.underlying t = some (.pointer e)) → (Op.equal t (.pointer none) (.pointer none)).run P w = .ok true w := by
      rintro ⟨e, he⟩
      show (Op.equalIn (9999 + 1) t (.pointer none) (.pointer none)).run P w = .ok true w
      unfold Op.equalIn
      simp [Sem.run_bind, run_underlying he, Result.andThen_ok, Sem.run_pure]
    split <;> rename_i hk <;> first
      | trivial
      | (intro _
         refine ⟨rfl, _, hb _ hgd ?_, .bool _⟩
         simp only [binOp, Sem.run_bind, heq (kind_pointer hT hk), Result.andThen_ok, Sem.run_pure, Bool.not_true])
  · cases hx with | ptr hb' hm =>
    cases hy
    rename_i g
    rename_i off
    have hgd : (eqGuard op t x y (.pointer (some ⟨g, off, none⟩)) (.pointer none)).run P w = .ok () w := guard_plain op t x y _ _ (by simp) (by simp)
    have heq : (∃ e, P.underlying t = some (.pointer e)) → (Op.equal t (.pointer (some ⟨g, off, none⟩)) (.pointer none)).run P w = .ok false w := by
      rintro ⟨e, he⟩
      show (Op.equalIn (9999 + 1) t (.pointer (some ⟨g, off, none⟩)) (.pointer none)).run P w = .ok false w
      unfold Op.equalIn
      simp [Sem.run_bind, run_underlying he, Result.andThen_ok, Sem.run_pure]
    split <;> rename_i hk <;> first
      | trivial
      | (intro _
         refine ⟨rfl, _, hb _ hgd ?_, .bool _⟩
         simp only [binOp, Sem.run_bind, heq (kind_pointer hT hk), Result.andThen_ok, Sem.run_pure, Bool.not_false])
  · -- a slice with elements against nil
    unfold nilCmp
    split
    · cases hr : isRowV X with
      | false => trivial
      | true =>
        simp only [cond_true]
        cases hn : lenOf H X with
        | none => trivial
        | some n =>
          simp only
          cases hy
          have key : Nat.blt 0 n = true → ∃ ad cap, vx = .slice (some ad) n cap := by
            intro hb
            have hp := (blt_iff _ _).1 hb
            cases X <;> simp only [isRowV, Bool.false_eq_true] at hr <;> simp only [lenOf] at hn
            · cases hx with
              | imm hc =>
                simp only [CellR] at hc
                obtain ⟨A, cp, hv, _, h3⟩ := hc
                have hl : (rowD _).length = n := Option.some.inj hn
                obtain ⟨g, o', ha, _⟩ := h3 (by rw [hl]; exact hp)
                exact ⟨_, cp, by rw [hv, ha, hl]⟩
            · cases hx with
              | own hb' hm =>
                split at hn
                · rename_i e xs fz ho
                  obtain ⟨A, cap, h1, _, _, h2⟩ := typed_head hH ho
                  have hl := Option.some.inj hn
                  obtain ⟨g, hg⟩ := h2 (by omega)
                  exact ⟨_, cap, by rw [← hm, h1, hg, hl]⟩
                · simp at hn
            · cases hx with
              | win hb' hm q1 q2 q3 =>
                have hl := Option.some.inj hn
                obtain ⟨g, _, hB⟩ := q3 (by omega)
                exact ⟨_, _, by rw [hB, hl]⟩
            · simp only [Option.some.injEq] at hn
              omega
          have fin : (T.kind t = .slice ∨ T.kind t = .bytes) → ∀ (neg : Bool), (op = if neg then .neq else .eql) → PureSpec P c w H o a (.ok (Nat.blt 0 n) (.bool neg) H) := by
            intro hk neg hop hb'
            obtain ⟨ad, cap, rfl⟩ := key hb'
            obtain ⟨e, he⟩ := kind_slice hT hk
            have hgd : (eqGuard op t x y (.slice (some ad) n cap) (.slice none 0 0)).run P w = .ok () w := guard_plain op t x y _ _ (by simp) (by simp)
            have heq : (Op.equal t (.slice (some ad) n cap) (.slice none 0 0)).run P w = .ok false w := by
              show (Op.equalIn (9999 + 1) t _ _).run P w = .ok false w
              unfold Op.equalIn
              simp [Sem.run_bind, run_underlying he, Result.andThen_ok, Sem.run_pure]
            refine ⟨rfl, .bool neg, hb _ hgd ?_, .bool _⟩
            cases neg <;> simp only [if_true, if_false, Bool.false_eq_true] at hop <;> subst hop <;> simp only [binOp, Sem.run_bind, heq, Result.andThen_ok, Sem.run_pure, Bool.not_false]
          split
          · rename_i hk
            split
            · exact fin (.inl hk) false rfl
            · exact fin (.inl hk) true rfl
            · trivial
          · rename_i hk
            split
            · exact fin (.inr hk) false rfl
            · exact fin (.inr hk) true rfl
            · trivial
          · trivial
    · trivial
end Go.Proofs.Ytejcniaepjahbaa.Mach
