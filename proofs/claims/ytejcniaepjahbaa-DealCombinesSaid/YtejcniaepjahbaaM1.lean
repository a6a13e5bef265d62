/- The executor's values against the model's: relations, and that they last. -/
import Derived.Test.YtejcniaepjahbaaM0
import Derived.Laws.AppendOwn
namespace Go.Proofs.Ytejcniaepjahbaa.Mach
open Go

/-! ### cells that are only read -/
def rowD {e : ETy} (l : (CTy.slice e).D) : List e.D := l
mutual
/-- a cell's content, in the stable blocks S of the world w -/
def CellR (S : Nat → Prop) (w : World) : (t : CTy) → t.D → Value → Prop
  | .int k, n, v => v = .int k n
  | .bool, b, v => v = .bool b
  | .str, s, v => v = .string s
  | .slice e, l, v => ∃ A c, v = .slice A (rowD l).length c ∧ (rowD l).length ≤ c ∧ (0 < (rowD l).length → ∃ g o, A = some ⟨g, o, none⟩ ∧ S g ∧
      ∀ (i : Nat) (x : e.D), (rowD l)[i]? = some x → ∃ vs, ElemR S w e x vs ∧ ∀ (j : Nat) (u : Value), vs[j]? = some u → w.cell? ⟨g, o + i * e.size + j, none⟩ = some u)
/-- the cells of an element -/
def ElemR (S : Nat → Prop) (w : World) : (e : ETy) → e.D → List Value → Prop
  | .one t, x, vs => ∃ v, vs = [v] ∧ CellR S w t x v
  | .more t e, x, vs => ∃ v r, vs = v :: r ∧ CellR S w t x.1 v ∧ ElemR S w e x.2 r
end
theorem cell_of_heap {w w' : World} {a : Addr} (h : w'.heap[a.block]? = w.heap[a.block]?) : w'.cell? a = w.cell? a := by simp [World.cell?, h]
set_option linter.unusedSectionVars false
section
variable {S S' : Nat → Prop} {w w' : World} (hS : ∀ g, S g → S' g) (hw : ∀ g, S g → w'.heap[g]? = w.heap[g]?)
include hS hw
mutual
theorem CellR.mono : ∀ {t : CTy} {x : t.D} {v : Value}, CellR S w t x v → CellR S' w' t x v
  | .int _, _, _, h => h
  | .bool, _, _, h => h
  | .str, _, _, h => h
  | .slice e, l, v, h => by
    simp only [CellR] at h ⊢
    obtain ⟨A, c, h1, h2, h3⟩ := h
    refine ⟨A, c, h1, h2, fun h0 => ?_⟩
    obtain ⟨g, o, ha, hg, hi⟩ := h3 h0
    refine ⟨g, o, ha, hS g hg, fun i x hx => ?_⟩
    obtain ⟨vs, hv, hc⟩ := hi i x hx
    exact ⟨vs, ElemR.mono hv, fun j u hu => (cell_of_heap (hw g hg)).trans (hc j u hu)⟩
theorem ElemR.mono : ∀ {e : ETy} {x : e.D} {vs : List Value}, ElemR S w e x vs → ElemR S' w' e x vs
  | .one _, _, _, h => by
    simp only [ElemR] at h ⊢
    obtain ⟨v, h1, h2⟩ := h
    exact ⟨v, h1, CellR.mono h2⟩
  | .more _ _, _, _, h => by
    simp only [ElemR] at h ⊢
    obtain ⟨v, r, h1, h2, h3⟩ := h
    exact ⟨v, r, h1, CellR.mono h2, ElemR.mono h3⟩
end
end
theorem ElemR.length {S : Nat → Prop} {w : World} : ∀ {e : ETy} {x : e.D} {vs : List Value}, ElemR S w e x vs → vs.length = e.size
  | .one _, _, _, h => by
    simp only [ElemR] at h
    obtain ⟨v, rfl, _⟩ := h; rfl
  | .more _ e, _, _, h => by
    simp only [ElemR] at h
    obtain ⟨v, r, rfl, _, h3⟩ := h
    simp only [List.length_cons, ETy.size, ElemR.length h3]

/-! ### values -/
/-- what is known of the local objects: their headers, the sizes of their elements; the blocks that stay as they are -/
structure Ctx where
  n : Nat
  m : Nat → Value
  z : Nat → Nat
  S : Nat → Prop
  S0 : Nat → Prop
inductive AVR (c : Ctx) (w : World) : AV → Value → Prop
  | undef (v : Value) : AVR c w .undef v
  | int (k : IntKind) (n : Int) : AVR c w (.int k n) (.int k n)
  | bool (b : Bool) : AVR c w (.bool b) (.bool b)
  | str (s : ByteArray) : AVR c w (.str s) (.string s)
  | imm {e : ETy} {l : List e.D} {v : Value} (h : CellR c.S w (.slice e) l v) : AVR c w (.imm e l) v
  | own {id n k : Nat} {A : Option Addr} (hb : id < c.n) (h : c.m id = .slice A n k) : AVR c w (.own id) (.slice A n k)
  | win {id off len n k k' : Nat} {A B : Option Addr} (hb : id < c.n) (h : c.m id = .slice A n k) (h1 : off + len ≤ n) (h2 : len ≤ k') (h3 : 0 < len → ∃ g, A = some ⟨g, 0, none⟩ ∧ B = some ⟨g, off * c.z id, none⟩) : AVR c w (.win id off len) (.slice B len k')
  | nils : AVR c w .nils (.slice none 0 0)
  | ptr {id off g : Nat} (hb : id < c.n) (h : c.m id = .pointer (some ⟨g, 0, none⟩)) : AVR c w (.ptr id off) (.pointer (some ⟨g, off, none⟩))
  | elt {id off g n k : Nat} {i : Int} (hb : id < c.n) (h : c.m id = .slice (some ⟨g, 0, none⟩) n k) (h0 : 0 ≤ i) (h1 : i < n) (h2 : off < c.z id) : AVR c w (.elt id i off) (.pointer (some ⟨g, i.toNat * c.z id + off, none⟩))
  | parr {id g n k : Nat} (hb : id < c.n) (h : c.m id = .slice (some ⟨g, 0, none⟩) n k) : AVR c w (.parr id) (.pointer (some ⟨g, 0, none⟩))
  | adr {cs : List AV} {g o : Nat} (hg : c.S g) (u : Nat → Value) (h1 : ∀ (j : Nat) (x : AV), cs[j]? = some x → w.cell? ⟨g, o + j, none⟩ = some (u j)) (h : ∀ (j : Nat) (x : AV), cs[j]? = some x → AVR c w x (u j)) : AVR c w (.adr cs) (.pointer (some ⟨g, o, none⟩))
  | nilp : AVR c w .nilp (.pointer none)
  | agg {cs : List AV} {vs : Array Value} (hl : cs.length = vs.size) (u : Nat → Value) (h1 : ∀ (j : Nat) (x : AV), cs[j]? = some x → vs[j]? = some (u j)) (h : ∀ (j : Nat) (x : AV), cs[j]? = some x → AVR c w x (u j)) : AVR c w (.agg cs) (.agg vs)
  | tup {cs : List AV} {vs : Array Value} (hl : cs.length = vs.size) (u : Nat → Value) (h1 : ∀ (j : Nat) (x : AV), cs[j]? = some x → vs[j]? = some (u j)) (h : ∀ (j : Nat) (x : AV), cs[j]? = some x → AVR c w x (u j)) : AVR c w (.tup cs) (.tuple vs)
  | fn {f : FuncId} {cs : List AV} {vs : Array Value} (hl : cs.length = vs.size) (u : Nat → Value) (h1 : ∀ (j : Nat) (x : AV), cs[j]? = some x → vs[j]? = some (u j)) (h : ∀ (j : Nat) (x : AV), cs[j]? = some x → AVR c w x (u j)) : AVR c w (.fn f cs) (.func (.func f) #[] vs)
  | raw (v : Value) : AVR c w (.raw v) v
/-- a context that knows at least as much -/
structure Ctx.le (c c' : Ctx) : Prop where
  n : c.n ≤ c'.n
  m : ∀ id, id < c.n → c'.m id = c.m id
  z : ∀ id, id < c.n → c'.z id = c.z id
  S : ∀ g, c.S g → c'.S g
  S0 : c'.S0 = c.S0
theorem Ctx.le_refl (c : Ctx) : Ctx.le c c := ⟨Nat.le_refl _, fun _ _ => rfl, fun _ _ => rfl, fun _ h => h, rfl⟩
theorem Ctx.le.trans {c c' c'' : Ctx} (h : Ctx.le c c') (k : Ctx.le c' c'') : Ctx.le c c'' :=
  ⟨Nat.le_trans h.n k.n, fun id hi => (k.m id (Nat.lt_of_lt_of_le hi h.n)).trans (h.m id hi), fun id hi => (k.z id (Nat.lt_of_lt_of_le hi h.n)).trans (h.z id hi), fun g hg => k.S g (h.S g hg), k.S0.trans h.S0⟩
theorem AVR.mono {c c' : Ctx} {w w' : World} (hc : Ctx.le c c') (hw : ∀ g, c.S g → w'.heap[g]? = w.heap[g]?) {x : AV} {v : Value} (h : AVR c w x v) : AVR c' w' x v := by
  have hn := hc.n
  induction h with
  | undef v => exact .undef v
  | int k n => exact .int k n
  | bool b => exact .bool b
  | str s => exact .str s
  | imm h => exact .imm (CellR.mono hc.S hw h)
  | own hb h => exact .own (by omega) ((hc.m _ hb).trans h)
  | win hb h h1 h2 h3 => exact .win (by omega) ((hc.m _ hb).trans h) h1 h2 (by rw [hc.z _ hb]; exact h3)
  | nils => exact .nils
  | ptr hb h => exact .ptr (by omega) ((hc.m _ hb).trans h)
  | elt hb h h0 h1 h2 => rw [← hc.z _ hb]; exact .elt (by omega) ((hc.m _ hb).trans h) h0 h1 (by rw [hc.z _ hb]; exact h2)
  | parr hb h => exact .parr (by omega) ((hc.m _ hb).trans h)
  | adr hg u h1 h ih => exact .adr (hc.S _ hg) u (fun j x hx => (cell_of_heap (hw _ hg)).trans (h1 j x hx)) ih
  | nilp => exact .nilp
  | agg hl u h1 h ih => exact .agg hl u h1 ih
  | tup hl u h1 h ih => exact .tup hl u h1 ih
  | fn hl u h1 h ih => exact .fn hl u h1 ih
  | raw v => exact .raw v

/-! ### slots -/
theorem rec2 {α : Sort _} (x y : α) (m : Nat) : Nat.rec (motive := fun _ => α) x (fun _ _ => y) (m % 2) = if m % 2 = 0 then x else y := by
  have : m % 2 = 0 ∨ m % 2 = 1 := by omega
  rcases this with h | h <;> rw [h] <;> rfl
theorem getT_succ (x : AV) (a b : Tree0) (m : Nat) : getT (.node x a b) (m + 1) = if m % 2 = 0 then getT a (m / 2) else getT b (m / 2) := rec2 (getT a (m / 2)) (getT b (m / 2)) m
theorem setT_zero (x : AV) (a b : Tree0) (v : AV) : setT (.node x a b) 0 v = .node v a b := rfl
theorem setT_succ (x : AV) (a b : Tree0) (m : Nat) (v : AV) : setT (.node x a b) (m + 1) v = if m % 2 = 0 then .node x (setT a (m / 2) v) b else .node x a (setT b (m / 2) v) := rec2 (Tree0.node x (setT a (m / 2) v) b) (Tree0.node x a (setT b (m / 2) v)) m
theorem getT_setT (t : Tree0) : ∀ (d n : Nat) (v : AV), (n ≠ d → getT (setT t d v) n = getT t n) ∧ (getT (setT t d v) d = v ∨ getT (setT t d v) d = .undef) := by
  induction t with
  | leaf => intro d n v; exact ⟨fun _ => rfl, .inr rfl⟩
  | node x a b iha ihb =>
    intro d n v
    cases d with
    | zero =>
      refine ⟨fun h => ?_, .inl rfl⟩
      cases n with
      | zero => exact absurd rfl h
      | succ n => rw [setT_zero, getT_succ, getT_succ]
    | succ d =>
      rw [setT_succ]
      constructor
      · intro h
        cases n with
        | zero => split <;> rfl
        | succ n =>
          by_cases hd : d % 2 = 0
          · rw [if_pos hd, getT_succ, getT_succ]
            by_cases hn : n % 2 = 0
            · rw [if_pos hn, if_pos hn]; exact (iha (d / 2) (n / 2) v).1 (by omega)
            · rw [if_neg hn, if_neg hn]
          · rw [if_neg hd, getT_succ, getT_succ]
            by_cases hn : n % 2 = 0
            · rw [if_pos hn, if_pos hn]
            · rw [if_neg hn, if_neg hn]; exact (ihb (d / 2) (n / 2) v).1 (by omega)
      · by_cases hd : d % 2 = 0
        · rw [if_pos hd, getT_succ, if_pos hd]; exact (iha (d / 2) 0 v).2
        · rw [if_neg hd, getT_succ, if_neg hd]; exact (ihb (d / 2) 0 v).2
theorem blt_iff (i n : Nat) : Nat.blt i n = true ↔ i < n := by simp [Nat.blt, Nat.ble_eq]; omega
theorem getE_lt (e : Env) (i : Nat) (h : i < e.lim) : getE e i = getT e.t i := by unfold getE; rw [(blt_iff i e.lim).2 h]; rfl
theorem getE_ge (e : Env) (i : Nat) (h : ¬ i < e.lim) : getE e i = .undef := by
  unfold getE
  rw [show Nat.blt i e.lim = false by cases hb : Nat.blt i e.lim with | false => rfl | true => exact absurd ((blt_iff _ _).1 hb) h]; rfl
theorem setE_lt (e : Env) (i : Nat) (v : AV) (h : i < e.lim) : setE e i v = ⟨e.lim, setT e.t i v⟩ := by unfold setE; rw [(blt_iff i e.lim).2 h]; rfl
theorem setE_ge (e : Env) (i : Nat) (v : AV) (h : ¬ i < e.lim) : setE e i v = e := by
  unfold setE
  rw [show Nat.blt i e.lim = false by cases hb : Nat.blt i e.lim with | false => rfl | true => exact absurd ((blt_iff _ _).1 hb) h]; rfl
/-- what the slots hold, against the frame's -/
structure EnvR (c : Ctx) (w : World) (env : Env) (tmps : Array Value) : Prop where
  lim : env.lim = tmps.size
  at_ : ∀ n, AVR c w (getE env n) (tmps.getD n Go.undef)
theorem EnvR.mono {c c' : Ctx} {w w' : World} (hc : Ctx.le c c') (hw : ∀ g, c.S g → w'.heap[g]? = w.heap[g]?) {env : Env} {tmps : Array Value} (h : EnvR c w env tmps) : EnvR c' w' env tmps :=
  ⟨h.lim, fun n => (h.at_ n).mono hc hw⟩
theorem EnvR.set {c : Ctx} {w : World} {env : Env} {tmps : Array Value} (h : EnvR c w env tmps) (d : Nat) {x : AV} {v : Value} (hx : AVR c w x v) : EnvR c w (setE env d x) (tmps.setIfInBounds d v) := by
  by_cases hd : d < env.lim
  · have hd' : d < tmps.size := by rw [← h.lim]; exact hd
    rw [setE_lt _ _ _ hd]
    refine ⟨by simpa using h.lim, fun n => ?_⟩
    by_cases hn : n < env.lim
    · have hn' : n < tmps.size := by rw [← h.lim]; exact hn
      rw [getE_lt ⟨env.lim, setT env.t d x⟩ n hn]
      by_cases he : n = d
      · subst he
        have e : (tmps.setIfInBounds n v).getD n Go.undef = v := by simp [Array.getD, hn']
        rw [e]
        rcases (getT_setT env.t n n x).2 with h1 | h1
        · rw [h1]; exact hx
        · rw [h1]; exact .undef v
      · rw [(getT_setT env.t d n x).1 he, ← getE_lt _ _ hn]
        have e : (tmps.setIfInBounds d v).getD n Go.undef = tmps.getD n Go.undef := by
          simp [Array.getD, hn', Ne.symm he]
        rw [e]; exact h.at_ n
    · rw [getE_ge ⟨env.lim, setT env.t d x⟩ n hn]; exact .undef _
  · rw [setE_ge _ _ _ hd]
    have hd' : tmps.size ≤ d := by rw [← h.lim]; omega
    refine ⟨by simpa using h.lim, fun n => ?_⟩
    rw [Array.setIfInBounds_eq_of_size_le hd']
    exact h.at_ n
theorem EnvR.put {c : Ctx} {w : World} {env : Env} {a : Act} (h : EnvR c w env a.tmps) (d : Option Tmp) {x : AV} {v : Value} (hx : AVR c w x v) : EnvR c w (putD env d x) (a.put d v).tmps := by
  cases d with
  | none => exact h
  | some d => exact h.set d hx
end Go.Proofs.Ytejcniaepjahbaa.Mach
