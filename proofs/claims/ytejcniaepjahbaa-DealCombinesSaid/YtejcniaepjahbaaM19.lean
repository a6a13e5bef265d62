/- Local arrays by their address; built-in functions; calls: sound. -/
import Derived.Test.YtejcniaepjahbaaM18
set_option linter.unusedSimpArgs false
set_option linter.unusedVariables false
namespace Go.Proofs.Ytejcniaepjahbaa.Mach
open Go
section
variable {P : Program} {T : Tab} {n0 : Nat} {c : Ctx} {H : List HObj} {w : World} {env : Env} {a : Act} {o : Oper}
theorem arr_type (hT : TabOk P T) {t : TypeId} (hk : T.kind t = .arr) (hz : 0 < T.esize t) : ∃ n e i, P.underlying t = some (.array n e) ∧ P.info? e = some i ∧ i.size = T.esize t := by
  have h1 : ∃ n e, P.underlying t = some (.array n e) := by
    unfold Tab.kind at hk
    split at hk
    · rename_i x hx
      rw [hT.ty _ _ hx] at hk
      unfold tyOf at hk
      dsimp only at hk
      split at hk <;> first | exact ⟨_, _, by assumption⟩ | (exfalso; revert hk; split <;> simp) | simp at hk
    · simp at hk
  obtain ⟨n, e, he⟩ := h1
  unfold Tab.esize at hz ⊢
  cases hf : find T.ty t with
  | none => rw [hf] at hz; simp at hz
  | some x =>
    rw [hf] at hz
    have hx := hT.ty _ _ hf
    subst hx
    have hs : (tyOf P t).esize = P.cellsOf e := by simp [tyOf, he]
    simp only [hs] at hz ⊢
    unfold Program.cellsOf at hz ⊢
    cases hi : P.info? e with
    | none => rw [hi] at hz; simp at hz
    | some i => exact ⟨n, e, i, he, hi, rfl⟩
theorem alen_spec (hT : TabOk P T) {t : TypeId} {n : Nat} {e : TypeId} (hu : P.underlying t = some (.array n e)) {m : Nat} (hm : T.alen t = m) (h0 : 0 < m) : n = m := by
  unfold Tab.alen at hm
  split at hm
  · rename_i x hx
    have hx' := find_ty hT hx
    subst hx'
    split at hm
    · rename_i p hp
      simp only [tyOf, hu, Option.map_eq_some_iff] at hp
      obtain ⟨et, _, rfl⟩ := hp
      exact hm
    · omega
  · omega
theorem parr_head (hH : HR n0 c H w) {id : Nat} {v : Value} (hx : AVR c w (.parr id) v) {e : ETy} {xs : List e.D} {fz : Bool} (hobj : objAt H id = .typed e xs fz) : ∃ g k, v = .pointer (some ⟨g, 0, none⟩) ∧ c.m id = .slice (some ⟨g, 0, none⟩) xs.length k ∧ id < c.n ∧ c.z id = e.size := by
  obtain ⟨A, cap, h3, h4, h5, h6⟩ := typed_head hH hobj
  cases hx with
  | parr hb hm =>
    rw [h3] at hm
    simp only [Value.slice.injEq] at hm
    obtain ⟨rfl, h8, h9⟩ := hm
    exact ⟨_, cap, rfl, h3, hb, h5⟩
theorem s_indexA (hH : HR n0 c H w) (h : EnvR c w env a.tmps) (hT : TabOk P T) {t : TypeId} {x y : Operand} (ho : o.op = .indexAddr t x y) (hk : T.kind t = .arr) (hs : szOk H (T.esize t) (evalO env x) = true) {k : IntKind} {j : Int} (hy : a.eval y = .int k j) :
    PureSpec P c w H o a (indexA (T.alen t) H (evalO env x) j) := by
  obtain ⟨n, et, i, ht, hi, hsz⟩ := arr_type hT hk (szOk_pos hs)
  have hx := evalO_rel h x
  generalize hv : a.eval x = vx at *
  generalize evalO env x = X at *
  unfold indexA
  split
  · rename_i id
    split
    · rename_i e xs fz hobj
      intro hg
      simp only [Bool.and_eq_true, decide_eq_true_eq] at hg
      obtain ⟨hal, h0, h1⟩ := hg
      have hal' := Nat.eq_of_beq_eq_true hal
      have hn := alen_spec hT ht hal' (by omega)
      obtain ⟨g, cap, rfl, hm, hb, hz⟩ := parr_head hH hx hobj
      have hes := Nat.eq_of_beq_eq_true (show Nat.beq e.size (T.esize t) = true by simpa [szOk, hobj] using hs)
      refine ⟨rfl, .pointer (some ⟨g, j.toNat * i.size, none⟩), ?_, ?_⟩
      · have h1' : j < (n : Int) := by omega
        simp only [execOp, ho, hv, hy]
        simp [Instr.indexAt, Instr.sureAddr, asIntOf, run_underlying ht, sizeOf, typeInfo, hi, h0, h1', add_at, Sem.run_bind, Sem.run_pure]
      · rw [hsz, ← hes, ← hz]
        have := AVR.elt (w := w) (off := 0) hb hm h0 h1 (by rw [hz]; exact e.size_pos)
        simpa using this
    · trivial
  · trivial
theorem s_cutArr (hH : HR n0 c H w) (h : EnvR c w env a.tmps) (hT : TabOk P T) {t : TypeId} {x : Operand} {lo hi : Option Operand} (ho : o.op = .slice t x lo hi none) (hk : T.kind t = .arr) (hs : szOk H (T.esize t) (evalO env x) = true) {l r : Int}
    (hl : bnd 0 (lo.map (evalO env)) = some l) {n : Nat} (hn : lenOf H (evalO env x) = some n) (hal : T.alen t = n) (h0 : 0 < n) (hr : bnd n (hi.map (evalO env)) = some r) : PureSpec P c w H o a (cutArr H n l r (evalO env x)) := by
  obtain ⟨m, et, i, ht, hi', hsz⟩ := arr_type hT hk (szOk_pos hs)
  have hx := evalO_rel h x
  generalize hv : a.eval x = vx at *
  generalize hX : evalO env x = X at *
  unfold cutArr
  split
  · rename_i id
    intro hg
    simp only [Bool.and_eq_true, decide_eq_true_eq] at hg
    simp only [lenOf] at hn
    split at hn
    · rename_i e xs fz hobj
      simp only [Option.some.injEq] at hn
      subst hn
      obtain ⟨g, cap, rfl, hm, hb, hz⟩ := parr_head hH hx hobj
      have hes := Nat.eq_of_beq_eq_true (show Nat.beq e.size (T.esize t) = true by simpa [szOk, hobj] using hs)
      have hmn := alen_spec hT ht hal h0
      subst hmn
      have hbr := bounds_run (P := P) (w := w) h false xs.length xs.length lo hi hl hr hg.1.1 hg.1.2 hg.2 (Nat.le_refl _)
      refine ⟨rfl, .slice (some (if xs.length = l.toNat then ⟨g, 0, none⟩ else ⟨g, l.toNat * i.size, none⟩)) (r.toNat - l.toNat) (xs.length - l.toNat), ?_, ?_⟩
      · simp only [execOp, ho, Option.map_none, hv]
        simp [Instr.sliceAt, Instr.sureAddr, run_underlying ht, hbr, sizeOf, typeInfo, hi', add_at, Sem.run_bind, Sem.run_pure]
      · refine .win hb hm (by omega) (by omega) fun hp => ⟨g, rfl, ?_⟩
        rw [if_neg (by omega), hz, hsz, ← hes]
    · simp at hn
  · trivial
end
end Go.Proofs.Ytejcniaepjahbaa.Mach
