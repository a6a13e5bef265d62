/- Cuts of strings and slices, addresses of elements: sound. -/
import Derived.Test.YtejcniaepjahbaaM4
import Derived.Laws.Slices
set_option linter.unusedSimpArgs false
namespace Go.Proofs.Ytejcniaepjahbaa.Mach
open Go
theorem ETy.size_pos (e : ETy) : 0 < e.size := by cases e <;> simp [ETy.size]
theorem szOk_pos {H : List HObj} {z : Nat} {x : AV} (h : szOk H z x = true) : 0 < z := by
  have key : ∀ o : HObj, (match o with | .typed e _ _ => Nat.beq e.size z | _ => false) = true → 0 < z := by
    intro o ho
    cases o with
    | typed e xs fz => rw [← Nat.eq_of_beq_eq_true ho]; exact e.size_pos
    | box cs => simp at ho
    | dead => simp at ho
  cases x with
  | imm e l => rw [← Nat.eq_of_beq_eq_true (show Nat.beq e.size z = true from h)]; exact e.size_pos
  | own id => exact key _ h
  | win id off n => exact key _ h
  | parr id => exact key _ h
  | nils => exact (blt_iff _ _).1 h
  | _ => simp [szOk] at h
section
variable {P : Program} {T : Tab} {n0 : Nat} {c : Ctx} {H : List HObj} {w : World} {env : Env} {a : Act} {o : Oper}
theorem bnd_val (h : EnvR c w env a.tmps) (d : Int) (lo : Option Operand) {l : Int} (hl : bnd d (lo.map (evalO env)) = some l) : (lo = none ∧ l = d) ∨ (∃ x k, lo = some x ∧ a.eval x = .int k l) := by
  cases lo with
  | none => exact .inl ⟨rfl, by simpa [bnd] using hl.symm⟩
  | some x =>
    have hx := evalO_rel h x
    simp only [Option.map_some] at hl
    generalize evalO env x = X at *
    unfold bnd at hl
    split at hl
    · rename_i he; simp at he
    · rename_i k n he
      simp only [Option.some.injEq] at he hl
      subst he hl
      exact .inr ⟨x, k, rfl, int_inv hx⟩
    · simp at hl
theorem bounds_run (h : EnvR c w env a.tmps) (isS : Bool) (n cap : Nat) (lo hi : Option Operand) {l r : Int} (hl : bnd 0 (lo.map (evalO env)) = some l) (hr : bnd n (hi.map (evalO env)) = some r)
    (h0 : 0 ≤ l) (h1 : l ≤ r) (h2 : r ≤ (n : Int)) (hc : n ≤ cap) :
    (Instr.sliceBounds isS n cap (lo.map a.eval) (hi.map a.eval) none).run P w = .ok (l.toNat, r.toNat, cap) w := by
  have e1 : ∀ (k : IntKind) (y : Nat) (code : BoundsCode), r ≤ y → (Instr.sliceBound (.int k r) y code).run P w = .ok r.toNat w := fun k y code hy => run_sliceBound w k r y code (by omega) hy
  have e2 : ∀ (k : IntKind) (code : BoundsCode), (Instr.sliceBound (.int k l) r.toNat code).run P w = .ok l.toNat w := fun k code => run_sliceBound w k l r.toNat code h0 (by omega)
  rcases bnd_val h 0 lo hl with ⟨rfl, rfl⟩ | ⟨x, k, rfl, hx⟩ <;> rcases bnd_val h n hi hr with ⟨rfl, rfl⟩ | ⟨y, k', rfl, hy⟩
  · simp [Instr.sliceBounds, Sem.run_bind, Sem.run_pure]
  · simp [Instr.sliceBounds, Sem.run_bind, Sem.run_pure, hy, e1 k' cap _ (by omega)]
  · simp only [Int.toNat_natCast] at e2
    simp [Instr.sliceBounds, Sem.run_bind, Sem.run_pure, hx, e2]
  · simp [Instr.sliceBounds, Sem.run_bind, Sem.run_pure, hx, hy, e1 k' cap _ (by omega), e2]
theorem s_cutStr (h : EnvR c w env a.tmps) (hT : TabOk P T) {t : TypeId} {x : Operand} {lo hi : Option Operand} (ho : o.op = .slice t x lo hi none) (hk : T.kind t = .str) {l r : Int}
    (hl : bnd 0 (lo.map (evalO env)) = some l) {n : Nat} (hn : lenOf H (evalO env x) = some n) (hr : bnd n (hi.map (evalO env)) = some r) : PureSpec P c w H o a (cutStr H l r (evalO env x)) := by
  have hx := evalO_rel h x
  generalize hX : evalO env x = X at *
  unfold cutStr
  split
  · rename_i s
    intro hg
    simp only [Bool.and_eq_true, decide_eq_true_eq] at hg
    simp only [lenOf, Option.some.injEq] at hn
    subst hn
    have hb := bounds_run (P := P) h false s.size s.size lo hi hl hr hg.1.1 hg.1.2 hg.2 (Nat.le_refl _)
    refine ⟨rfl, .string (s.extract l.toNat r.toNat), ?_, .str _⟩
    have ht := kind_str hT hk
    simp only [execOp, ho, Option.map_none, str_inv hx]
    simp [Instr.sliceAt, Instr.slice, run_underlying ht, hb, Sem.run_bind, Sem.run_pure]
  · trivial
theorem slice_type (hT : TabOk P T) {t : TypeId} (hk : T.kind t = .slice ∨ T.kind t = .bytes) (hz : 0 < T.esize t) : ∃ e i, P.underlying t = some (.slice e) ∧ P.info? e = some i ∧ i.size = T.esize t := by
  obtain ⟨e, he⟩ := kind_slice hT hk
  unfold Tab.esize at hz ⊢
  cases hf : find T.ty t with
  | none => rw [hf] at hz; simp at hz
  | some x =>
    rw [hf] at hz
    have hx := hT.ty _ _ hf
    subst hx
    have hs : (tyOf P t).esize = P.cellsOf e := by simp [tyOf, he]
    simp only [hs] at hz ⊢
    unfold Program.cellsOf at hz ⊢
    cases hi : P.info? e with
    | none => rw [hi] at hz; simp at hz
    | some i => exact ⟨e, i, he, hi, rfl⟩
theorem run_cut (h : EnvR c w env a.tmps) {t : TypeId} {x : Operand} {lo hi : Option Operand} (ho : o.op = .slice t x lo hi none) {e : TypeId} {i : TypeInfo} (ht : P.underlying t = some (.slice e)) (hi' : P.info? e = some i)
    {A : Option Addr} {n cap : Nat} (hv : a.eval x = .slice A n cap) (hc : n ≤ cap) {l r : Int} (hl : bnd 0 (lo.map (evalO env)) = some l) (hr : bnd n (hi.map (evalO env)) = some r) (h0 : 0 ≤ l) (h1 : l ≤ r) (h2 : r ≤ (n : Int)) :
    (execOp a.eval o).run P w = .ok (.value (.slice (if cap = l.toNat then A else A.map (·.add (l.toNat * i.size))) (r.toNat - l.toNat) (cap - l.toNat))) w := by
  have hb := bounds_run (P := P) h true n cap lo hi hl hr h0 h1 h2 hc
  simp only [execOp, ho, Option.map_none, hv]
  simp [Instr.sliceAt, Instr.slice, run_underlying ht, hb, sizeOf, typeInfo, hi', Sem.run_bind, Sem.run_pure]
theorem add_at (g o n : Nat) : (⟨g, o, none⟩ : Addr).add n = ⟨g, o + n, none⟩ := by
  unfold Addr.add
  split
  · rename_i h; subst h; rfl
  · rfl
theorem s_cutImm (h : EnvR c w env a.tmps) {t : TypeId} {x : Operand} {lo hi : Option Operand} (ho : o.op = .slice t x lo hi none) {et : TypeId} {i : TypeInfo} (ht : P.underlying t = some (.slice et)) (hi' : P.info? et = some i)
    {e : ETy} {q : List e.D} (hX : evalO env x = .imm e q) (hsz : i.size = e.size) {l r : Int} (hl : bnd 0 (lo.map (evalO env)) = some l) (hr : bnd q.length (hi.map (evalO env)) = some r) (h0 : 0 ≤ l) (h1 : l ≤ r) (h2 : r ≤ (q.length : Int)) :
    Pure1 P c w o a (.imm e ((q.take r.toNat).drop l.toNat)) := by
  have hx := evalO_rel h x
  rw [hX] at hx
  cases hx with
  | imm hc =>
    simp only [CellR] at hc
    obtain ⟨A, cap, hv, hle, hcell⟩ := hc
    have hqn : (rowD q).length = q.length := rfl
    rw [hqn] at hv hle hcell
    refine ⟨_, run_cut h ho ht hi' hv hle hl hr h0 h1 h2, .imm ?_⟩
    simp only [CellR]
    have hlen : (rowD ((q.take r.toNat).drop l.toNat)).length = r.toNat - l.toNat := by
      show ((q.take r.toNat).drop l.toNat).length = _
      rw [List.length_drop, List.length_take]; omega
    refine ⟨_, _, by rw [hlen], by rw [hlen]; omega, fun hp => ?_⟩
    rw [hlen] at hp
    obtain ⟨g, o', rfl, hg, hel⟩ := hcell (by omega)
    refine ⟨g, o' + l.toNat * i.size, ?_, hg, fun j y hy => ?_⟩
    · rw [if_neg (by omega)]
      simp only [Option.map_some, add_at]
    · have hy' : q[l.toNat + j]? = some y := by
        have e1 : (rowD ((q.take r.toNat).drop l.toNat))[j]? = (q.take r.toNat)[l.toNat + j]? := List.getElem?_drop
        rw [e1, List.getElem?_take] at hy
        split at hy
        · exact hy
        · simp at hy
      obtain ⟨vs, hvs, hc2⟩ := hel (l.toNat + j) y hy'
      refine ⟨vs, hvs, fun k u hu => ?_⟩
      have := hc2 k u hu
      rw [hsz]
      rw [show o' + l.toNat * e.size + j * e.size + k = o' + (l.toNat + j) * e.size + k by rw [Nat.add_mul]; omega]
      exact this
theorem s_cutOwn (hH : HR n0 c H w) (h : EnvR c w env a.tmps) {t : TypeId} {x : Operand} {lo hi : Option Operand} (ho : o.op = .slice t x lo hi none) {et : TypeId} {i : TypeInfo} (ht : P.underlying t = some (.slice et)) (hi' : P.info? et = some i)
    {id : Nat} (hX : evalO env x = .own id) {e : ETy} {xs : List e.D} {fz : Bool} (hobj : objAt H id = .typed e xs fz) (hsz : i.size = e.size) {l r : Int} (hl : bnd 0 (lo.map (evalO env)) = some l) (hr : bnd xs.length (hi.map (evalO env)) = some r) (h0 : 0 ≤ l) (h1 : l ≤ r) (h2 : r ≤ (xs.length : Int)) :
    Pure1 P c w o a (.win id l.toNat (r.toNat - l.toNat)) := by
  have hx := evalO_rel h x
  rw [hX] at hx
  generalize hv : a.eval x = vx at hx
  cases hx with
  | own hb hm =>
    obtain ⟨A, cap, h3, h4, h5, h6⟩ := typed_head hH hobj
    refine ⟨_, run_cut h ho ht hi' (hv.trans (hm.symm.trans h3)) h4 hl hr h0 h1 h2, .win hb h3 (by omega) (by omega) fun hp => ?_⟩
    obtain ⟨g, rfl⟩ := h6 (by omega)
    refine ⟨g, rfl, ?_⟩
    rw [if_neg (by omega), h5, hsz]
    simp only [Option.map_some, add_at, Nat.zero_add]
theorem s_cutWin (h : EnvR c w env a.tmps) {t : TypeId} {x : Operand} {lo hi : Option Operand} (ho : o.op = .slice t x lo hi none) {et : TypeId} {i : TypeInfo} (ht : P.underlying t = some (.slice et)) (hi' : P.info? et = some i)
    {id off n : Nat} (hX : evalO env x = .win id off n) (hsz : i.size = c.z id) {l r : Int} (hl : bnd 0 (lo.map (evalO env)) = some l) (hr : bnd n (hi.map (evalO env)) = some r) (h0 : 0 ≤ l) (h1 : l ≤ r) (h2 : r ≤ (n : Int)) :
    Pure1 P c w o a (.win id (off + l.toNat) (r.toNat - l.toNat)) := by
  have hx := evalO_rel h x
  rw [hX] at hx
  generalize hv : a.eval x = vx at hx
  cases hx with
  | win hb hm h3 h4 h5 =>
    refine ⟨_, run_cut h ho ht hi' hv h4 hl hr h0 h1 h2, .win hb hm (by omega) (by omega) fun hp => ?_⟩
    obtain ⟨g, hA, rfl⟩ := h5 (by omega)
    refine ⟨g, hA, ?_⟩
    rw [if_neg (by omega), hsz]
    simp only [Option.map_some, add_at, Nat.add_mul]
theorem s_cutNil (h : EnvR c w env a.tmps) {t : TypeId} {x : Operand} {lo hi : Option Operand} (ho : o.op = .slice t x lo hi none) {et : TypeId} {i : TypeInfo} (ht : P.underlying t = some (.slice et)) (hi' : P.info? et = some i)
    (hX : evalO env x = .nils) {l r : Int} (hl : bnd 0 (lo.map (evalO env)) = some l) (hr : bnd (0 : Nat) (hi.map (evalO env)) = some r) (h0 : 0 ≤ l) (h1 : l ≤ r) (h2 : r ≤ ((0 : Nat) : Int)) :
    Pure1 P c w o a .nils := by
  have hx := evalO_rel h x
  rw [hX] at hx
  generalize hv : a.eval x = vx at hx
  cases hx
  have := run_cut h ho ht hi' hv (Nat.le_refl 0) hl hr h0 h1 h2
  rw [show l.toNat = 0 by omega, show r.toNat = 0 by omega] at this
  exact ⟨_, this, .nils⟩
/-- a cut of a slice -/
theorem s_cutRow (hH : HR n0 c H w) (h : EnvR c w env a.tmps) (hT : TabOk P T) {t : TypeId} {x : Operand} {lo hi : Option Operand} (ho : o.op = .slice t x lo hi none) (hk : T.kind t = .slice ∨ T.kind t = .bytes) (hs : szOk H (T.esize t) (evalO env x) = true) {l r : Int}
    (hl : bnd 0 (lo.map (evalO env)) = some l) {n : Nat} (hn : lenOf H (evalO env x) = some n) (hr : bnd n (hi.map (evalO env)) = some r) : PureSpec P c w H o a (cutRow H n l r (evalO env x)) := by
  generalize hX : evalO env x = X at *
  have hz : 0 < T.esize t := szOk_pos hs
  obtain ⟨et, i, ht, hi', hsz⟩ := slice_type hT hk hz
  unfold cutRow
  split
  · rename_i e q
    intro hg
    simp only [Bool.and_eq_true, decide_eq_true_eq] at hg
    simp only [lenOf, Option.some.injEq] at hn
    subst hn
    simp only [szOk] at hs
    exact ⟨rfl, s_cutImm h ho ht hi' hX (by rw [hsz, Nat.eq_of_beq_eq_true hs]) hl hr hg.1.1 hg.1.2 hg.2⟩
  · rename_i id
    intro hg
    simp only [Bool.and_eq_true, decide_eq_true_eq] at hg
    simp only [lenOf] at hn
    simp only [szOk] at hs
    split at hn
    · rename_i e xs fz hobj
      simp only [Option.some.injEq] at hn
      subst hn
      rw [hobj] at hs
      exact ⟨rfl, s_cutOwn hH h ho ht hi' hX hobj (by rw [hsz, Nat.eq_of_beq_eq_true hs]) hl hr hg.1.1 hg.1.2 hg.2⟩
    · simp at hn
  · rename_i id off m
    intro hg
    simp only [Bool.and_eq_true, decide_eq_true_eq] at hg
    simp only [lenOf, Option.some.injEq] at hn
    subst hn
    simp only [szOk] at hs
    split at hs
    · rename_i e xs fz hobj
      obtain ⟨_, _, _, _, h5, _⟩ := typed_head hH hobj
      exact ⟨rfl, s_cutWin h ho ht hi' hX (by rw [hsz, h5, Nat.eq_of_beq_eq_true hs]) hl hr hg.1.1 hg.1.2 hg.2⟩
    · simp at hs
  · intro hg
    simp only [Bool.and_eq_true, decide_eq_true_eq] at hg
    simp only [lenOf, Option.some.injEq] at hn
    subst hn
    exact ⟨rfl, s_cutNil h ho ht hi' hX hl hr hg.1.1 hg.1.2 hg.2⟩
  · trivial
end
end Go.Proofs.Ytejcniaepjahbaa.Mach
