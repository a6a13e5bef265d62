/- The functions of the package deal, by their equations. -/
import Derived.Test.YtejcniaepjahbaaDE
set_option linter.unusedVariables false
set_option linter.unusedSimpArgs false
namespace Go.Proofs.Ytejcniaepjahbaa.Deal
open Go Go.Proofs.Ytejcniaepjahbaa.Mach
/-- what a call alone must come to -/
def resK (Q : AV → List HObj → Prop) : AV → List HObj → Prop := fun v' H' => ∃ v objs, Q v objs ∧ outOk objs.length v = true ∧ typedL objs = true ∧ Ren H' v' v objs
theorem res_plain {Q : AV → List HObj → Prop} {v : AV} {H : List HObj} (h : Q v []) (ho : outOk 0 v = true) (hr : v = reId (fun k => ([] : List Nat).getD k 0) v) : resK Q v H :=
  ⟨v, [], h, ho, rfl, [], rfl, List.nodup_nil, fun k id hk => by simp at hk, hr⟩
theorem res_own {Q : AV → List HObj → Prop} {e : ETy} {l : List e.D} {fz : Bool} {k : IntKind} {n : Int} (h : Q (.tup [.own 0, .int k n]) [.typed e l fz]) : resK Q (.tup [.own 0, .int k n]) [.typed e l fz] :=
  ⟨_, [.typed e l fz], h, rfl, rfl, [0], rfl, by simp, fun k id hk => by
    cases k with
    | zero => simp only [List.getElem?_cons_zero, Option.some.injEq] at hk; subst hk; rfl
    | succ k => simp at hk, rfl⟩
theorem wr {n : Int} (h0 : -9223372036854775808 ≤ n) (h1 : n ≤ 9223372036854775807) : IntKind.i64.wrap n = n := by rw [IntKind.wrap_i64]; omega
theorem cpos {b : Bool} {x y : Prop} (h : b = true) : (bif b then x else y) = x := by rw [h]; rfl
theorem cneg {b : Bool} {x y : Prop} (h : b = false) : (bif b then x else y) = y := by rw [h]; rfl
theorem hmo : Try.prog.follows .mixedOrders = true := by kernel_rfl
theorem fn (f : FuncId) (g : FnT) (h : find tab.fn f = some g) : fnOf Try.prog f = some g := tabOk.fn f g h
theorem fn59 : fnOf Try.prog 59 = some (fnT Try.f59) := fn 59 _ (by kernel_rfl)
theorem fn50 : fnOf Try.prog 50 = some (fnT Try.f50) := fn 50 _ (by kernel_rfl)
theorem fn28 : fnOf Try.prog 28 = some (fnT Try.f28) := fn 28 _ (by kernel_rfl)
theorem fn27 : fnOf Try.prog 27 = some (fnT Try.f27) := fn 27 _ (by kernel_rfl)
theorem fn26 : fnOf Try.prog 26 = some (fnT Try.f26) := fn 26 _ (by kernel_rfl)
theorem fn25 : fnOf Try.prog 25 = some (fnT Try.f25) := fn 25 _ (by kernel_rfl)
theorem fn5 : fnOf Try.prog 5 = some (fnT Try.f5) := fn 5 _ (by kernel_rfl)
theorem con0_ok : ∀ g xs Q, con0 g xs Q → Con Try.prog g xs Q := fun _ _ _ h => h.elim
theorem good0 {n0 : Nat} {f : FuncId} {g : FnT} (hg : fnOf Try.prog f = some g) {K : AV → List HObj → Prop} {LT : List (Nat × List Nat)} {inl : List Nat} {todo : List Item} {st : St} (h : execN tab (mixK tab con0 inl 400) (maskK LT (GoodL Try.prog n0 f K)) (finK tab g.res K) 400 todo st) : GoodL Try.prog n0 f K todo st :=
  good_of tabOk hmo (mixK_ok tabOk hmo con0_ok inl 400) hg h
/-! ### Fits, in -/
theorem fitsV_bad {n : Int} {l : List Int} (hl : (l.length : Int) = max 0 (n - 1)) {x : Nat} (hx : x < l.length) (hb : ¬ (0 ≤ l.getD x 0 ∧ l.getD x 0 ≤ n - 1 - x)) : fitsV n l = 4 := by
  unfold fitsV
  rw [if_neg (by simpa using hl), if_neg (fun h => hb (h x hx))]
theorem fits_con {n : Int} {l : List Int} {Q : AV → List HObj → Prop} (h0 : 0 ≤ n) (h1 : n ≤ 52) (hF : Fit l) (hQ : Q (.int .i64 (fitsV n l)) []) : Con Try.prog 59 [.int .i64 n, .imm eI l] Q := by
  refine con_of fn59 rfl fun n0 => ?_
  show GoodL _ n0 59 (resK Q) _ _
  refine good0 fn59 (LT := fits_live) (inl := []) ?_
  rw [fits_E, wr (by omega) (by omega)]
  have fin : ∀ (v : Int) H, fitsV n l = v → resK Q (.int .i64 v) H := fun v H hv => res_plain (by rw [← hv]; exact hQ) rfl rfl
  have hmx : (if n - 1 > 0 then n - 1 else 0) = max 0 (n - 1) := by omega
  rw [hmx]
  by_cases hl : (l.length : Int) = max 0 (n - 1)
  · rw [cneg (by simp [hl])]
    have loop := loop_rule (P := Try.prog) (n0 := n0) (f := 59) (K := resK Q) (todo := headAt (fnT Try.f59) 4) (S := fun x : Nat => fits_s4_0 n l (l.length : Int) (x : Int)) (fun x : Nat => l.length - x)
      (fun x => x ≤ l.length ∧ ∀ j, j < x → 0 ≤ l.getD j 0 ∧ l.getD j 0 ≤ n - 1 - j) (fun x hp ih => by
        obtain ⟨hx0, hx1⟩ := hp
        refine round_ok (good0 fn59 (LT := fits_live) (inl := []) ?_)
        rw [fits_s4_0_E]
        by_cases hx : x < l.length
        · rw [cpos (decide_eq_true (by omega)), cpos (by simp; omega), Int.toNat_natCast, wr (n := n - 1) (by omega) (by omega), wr (n := n - 1 - x) (by omega) (by omega), wr (n := (x : Int) + 1) (by omega) (by omega)]
          by_cases ha : l.getD x 0 < 0
          · rw [cpos (decide_eq_true ha)]
            exact fin 4 _ (fitsV_bad hl hx (by omega))
          · rw [cneg (decide_eq_false ha)]
            by_cases hb : l.getD x 0 > n - 1 - x
            · rw [cpos (by simpa using hb)]
              exact fin 4 _ (fitsV_bad hl hx (by omega))
            · rw [cneg (by simpa using hb)]
              refine ih (x + 1) ⟨by omega, fun j hj => ?_⟩ (by omega)
              by_cases hjx : j = x
              · subst hjx; omega
              · exact hx1 j (by omega)
        · rw [cneg (decide_eq_false (by omega))]
          refine fin 0 _ ?_
          unfold fitsV
          rw [if_neg (by simpa using hl), if_pos (fun j hj => hx1 j (by omega))])
    exact loop 0 ⟨by omega, fun j hj => by omega⟩
  · rw [cpos (by simpa using hl)]
    refine fin 3 _ ?_
    unfold fitsV
    rw [if_pos (by simpa using hl)]
theorem in_con {a b c : Int} {Q : AV → List HObj → Prop} (hQ : Q (.bool (decide (a ≥ b) && decide (a ≤ c))) []) : Con Try.prog 50 [.int .i64 a, .int .i64 b, .int .i64 c] Q := by
  refine con_of fn50 rfl fun n0 => ?_
  show GoodL _ n0 50 (resK Q) _ _
  refine good0 fn50 (LT := inr_live) (inl := []) ?_
  rw [inr_E]
  by_cases h : a ≥ b
  · rw [cpos (decide_eq_true h)]
    rw [decide_eq_true h] at hQ
    exact res_plain (by simpa using hQ) rfl rfl
  · rw [cneg (decide_eq_false h)]
    rw [decide_eq_false h] at hQ
    exact res_plain (by simpa using hQ) rfl rfl
/-! ### arguments -/
theorem num_inv {x : AV} {n : Int} (h : numOf x = some n) : x = .int .i64 n := by
  unfold numOf at h
  split at h
  · split at h
    · simp only [Option.some.injEq] at h; rw [h]
    · simp at h
  · simp at h
theorem ints_inv {x : AV} {l : List Int} (h : ints x = some l) : x = .imm eI l := by
  cases x with
  | imm e l' =>
    obtain ⟨he, hl⟩ := castRow_eq (show castRow eI e l' = some l from h)
    subst he
    rw [hl]
  | _ => exact absurd (show none = some l from h) (by simp)
theorem rows_inv {x : AV} {l : List (List Int)} (h : rows x = some l) : x = .imm (.one (.slice eI)) l := by
  cases x with
  | imm e l' =>
    obtain ⟨he, hl⟩ := castRow_eq (show castRow (.one (.slice eI)) e l' = some l from h)
    subst he
    rw [hl]
  | _ => exact absurd (show none = some l from h) (by simp)
theorem a2_inv {f : Int → List Int → (AV → List HObj → Prop) → Prop} {xs : List AV} {Q : AV → List HObj → Prop} (h : a2 f xs Q) : ∃ n l, xs = [.int .i64 n, .imm eI l] ∧ f n l Q := by
  unfold a2 at h
  split at h
  · split at h
    · rename_i hn
      split at h
      · rename_i hl
        exact ⟨_, _, by rw [num_inv hn, ints_inv hl], h⟩
      · exact h.elim
    · exact h.elim
  · exact h.elim
theorem a2'_inv {f : List Int → Int → (AV → List HObj → Prop) → Prop} {xs : List AV} {Q : AV → List HObj → Prop} (h : a2' f xs Q) : ∃ l n, xs = [.imm eI l, .int .i64 n] ∧ f l n Q := by
  unfold a2' at h
  split at h
  · split at h
    · rename_i hl
      split at h
      · rename_i hn
        exact ⟨_, _, by rw [num_inv hn, ints_inv hl], h⟩
      · exact h.elim
    · exact h.elim
  · exact h.elim
theorem a2r_inv {f : Int → List (List Int) → (AV → List HObj → Prop) → Prop} {xs : List AV} {Q : AV → List HObj → Prop} (h : a2r f xs Q) : ∃ n l, xs = [.int .i64 n, .imm (.one (.slice eI)) l] ∧ f n l Q := by
  unfold a2r at h
  split at h
  · split at h
    · rename_i hn
      split at h
      · rename_i hl
        exact ⟨_, _, by rw [num_inv hn, rows_inv hl], h⟩
      · exact h.elim
    · exact h.elim
  · exact h.elim
theorem a3_inv {f : Int → Int → Int → (AV → List HObj → Prop) → Prop} {xs : List AV} {Q : AV → List HObj → Prop} (h : a3 f xs Q) : ∃ a b c, xs = [.int .i64 a, .int .i64 b, .int .i64 c] ∧ f a b c Q := by
  unfold a3 at h
  split at h
  · split at h
    · rename_i ha
      split at h
      · rename_i hb
        split at h
        · rename_i hc
          exact ⟨_, _, _, by rw [num_inv ha, num_inv hb, num_inv hc], h⟩
        · exact h.elim
      · exact h.elim
    · exact h.elim
  · exact h.elim
theorem con1_ok : ∀ g xs Q, con1 g xs Q → Con Try.prog g xs Q := by
  intro g xs Q h
  unfold con1 at h
  cases h1 : Nat.beq g 59 with
  | true =>
    rw [h1] at h
    obtain ⟨n, l, rfl, ⟨p1, p2, p3⟩, hq⟩ := a2_inv (f := fitsC) h
    rw [Nat.eq_of_beq_eq_true h1]
    exact fits_con p1 p2 p3 hq
  | false =>
    rw [h1] at h
    simp only [cond_false] at h
    cases h2 : Nat.beq g 50 with
    | true =>
      rw [h2] at h
      obtain ⟨a, b, c, rfl, hq⟩ := a3_inv (f := inC) h
      rw [Nat.eq_of_beq_eq_true h2]
      exact in_con hq
    | false => rw [h2] at h; exact h.elim
theorem good1 {n0 : Nat} {f : FuncId} {g : FnT} (hg : fnOf Try.prog f = some g) {K : AV → List HObj → Prop} {LT : List (Nat × List Nat)} {inl : List Nat} {todo : List Item} {st : St} (h : execN tab (mixK tab con1 inl 400) (maskK LT (GoodL Try.prog n0 f K)) (finK tab g.res K) 400 todo st) : GoodL Try.prog n0 f K todo st :=
  good_of tabOk hmo (mixK_ok tabOk hmo con1_ok inl 400) hg h
/-! ### DrawsError -/
theorem drawe_con {n : Int} {l : List Int} {Q : AV → List HObj → Prop} (h0 : 0 ≤ n) (h1 : n ≤ 52) (hF : Fit l) (hQ : Q (.int .i64 (fitsV n l)) []) : Con Try.prog 28 [.int .i64 n, .imm eI l] Q := by
  refine con_of fn28 rfl fun n0 => ?_
  show GoodL _ n0 28 (resK Q) _ _
  have fin : ∀ (v : Int) H, fitsV n l = v → resK Q (.int .i64 v) H := fun v H hv => res_plain (by rw [← hv]; exact hQ) rfl rfl
  have loop : (l.length : Int) = max 0 (n - 1) → ∀ x : Nat, x ≤ l.length ∧ (∀ j, j < x → 0 ≤ l.getD j 0 ∧ l.getD j 0 ≤ n - 1 - j) → GoodL Try.prog n0 28 (resK Q) (headAt (fnT Try.f28) 4) (drawe_s4_0 n l (l.length : Int) (x : Int)) := fun hl =>
    loop_rule (P := Try.prog) (n0 := n0) (f := 28) (K := resK Q) (todo := headAt (fnT Try.f28) 4) (S := fun x : Nat => drawe_s4_0 n l (l.length : Int) (x : Int)) (fun x : Nat => l.length - x)
      (fun x => x ≤ l.length ∧ ∀ j, j < x → 0 ≤ l.getD j 0 ∧ l.getD j 0 ≤ n - 1 - j) (fun x hp ih => by
        obtain ⟨hx0, hx1⟩ := hp
        refine round_ok (good1 fn28 (LT := drawe_live) (inl := []) ?_)
        rw [drawe_s4_0_E]
        by_cases hx : x < l.length
        · rw [cpos (decide_eq_true (by omega)), cpos (by simp; omega), Int.toNat_natCast, wr (n := n - x) (by omega) (by omega), wr (n := n - x - 1) (by omega) (by omega), wr (n := (x : Int) + 1) (by omega) (by omega)]
          by_cases ha : 0 ≤ l.getD x 0 ∧ l.getD x 0 ≤ n - 1 - x
          · rw [cneg (by rw [decide_eq_true (show l.getD x 0 ≥ 0 by omega), decide_eq_true (show l.getD x 0 ≤ n - x - 1 by omega)]; rfl)]
            refine ih (x + 1) ⟨by omega, fun j hj => ?_⟩ (by omega)
            by_cases hjx : j = x
            · subst hjx; omega
            · exact hx1 j (by omega)
          · rw [cpos (by
              rw [Bool.not_eq_true', Bool.eq_false_iff]
              intro hh
              rw [Bool.and_eq_true] at hh
              have h2 := of_decide_eq_true hh.1
              have h3 := of_decide_eq_true hh.2
              omega)]
            exact fin 4 _ (fitsV_bad hl hx (by omega))
        · rw [cneg (decide_eq_false (by omega))]
          refine fin 0 _ ?_
          unfold fitsV
          rw [if_neg (by simpa using hl), if_pos (fun j hj => hx1 j (by omega))])
  have bad : (l.length : Int) ≠ max 0 (n - 1) → fitsV n l = 3 := fun hl => by unfold fitsV; rw [if_pos hl]
  refine good1 fn28 (LT := drawe_live) (inl := []) ?_
  rw [drawe_E, wr (by omega) (by omega)]
  by_cases hn : n > 1
  · rw [cpos (decide_eq_true hn)]
    by_cases hl : (l.length : Int) = n - 1
    · rw [cneg (by simp [hl]), cneg (decide_eq_false (by omega))]
      exact loop (by omega) 0 ⟨by omega, fun j hj => by omega⟩
    · rw [cpos (by simp; omega)]
      exact fin 3 _ (bad (by omega))
  · rw [cneg (decide_eq_false hn), cpos (decide_eq_true (by omega))]
    by_cases hl : (l.length : Int) = 0
    · rw [cneg (by simp at hl ⊢; exact hl)]
      exact loop (by omega) 0 ⟨by omega, fun j hj => by omega⟩
    · rw [cpos (by simp at hl ⊢; exact hl)]
      exact fin 3 _ (bad (by omega))
end Go.Proofs.Ytejcniaepjahbaa.Deal
