/- Combine. -/
import Derived.Test.YtejcniaepjahbaaDC2
set_option linter.unusedVariables false
set_option linter.unusedSimpArgs false
namespace Go.Proofs.Ytejcniaepjahbaa.Deal
open Go Go.Proofs.Ytejcniaepjahbaa.Mach
theorem fn25' : True := trivial
theorem fitsV_ok {n : Int} {l : List Int} (h : fitsV n l = 0) : (l.length : Int) = max 0 (n - 1) ∧ ∀ j, j < l.length → 0 ≤ l.getD j 0 ∧ l.getD j 0 ≤ n - 1 - j := by
  unfold fitsV at h
  split at h
  · omega
  · rename_i h1
    split at h
    · rename_i h2
      exact ⟨by simpa using h1, h2⟩
    · omega
theorem firstE_pre {n : Int} : ∀ (l : List (List Int)) (x : Nat), (∀ y, y < x → fitsV n (l.getD y []) = 0) → x ≤ l.length → firstE n l = firstE n (l.drop x)
  | l, 0, _, _ => rfl
  | [], x + 1, _, h => by simp at h
  | d :: l, x + 1, h, hx => by
    have h0 : fitsV n d = 0 := by simpa using h 0 (by omega)
    rw [firstE, if_pos h0, List.drop_succ_cons]
    exact firstE_pre l x (fun y hy => by simpa using h (y + 1) (by omega)) (by simpa using hx)
theorem firstE_at {n : Int} {l : List (List Int)} {x : Nat} (h : ∀ y, y < x → fitsV n (l.getD y []) = 0) (hx : x < l.length) (hb : fitsV n (l.getD x []) ≠ 0) : firstE n l = fitsV n (l.getD x []) := by
  rw [firstE_pre l x h (by omega)]
  rw [List.drop_eq_getElem_cons hx]
  rw [List.getD_eq_getElem?_getD, List.getElem?_eq_getElem hx] at hb ⊢
  simp only [Option.getD_some] at hb ⊢
  rw [firstE, if_neg hb]
theorem firstE_all {n : Int} {l : List (List Int)} (h : ∀ y, y < l.length → fitsV n (l.getD y []) = 0) : firstE n l = 0 := by
  rw [firstE_pre l l.length h (Nat.le_refl _), List.drop_length]
  rfl
/-- the sum of the first players' draws -/
def pS (l : List (List Int)) (j x : Nat) : Int := ((l.take x).map fun d => d.getD j 0).sum
theorem pS_succ {l : List (List Int)} {j x : Nat} (h : x < l.length) : pS l j (x + 1) = pS l j x + (l.getD x []).getD j 0 := by
  unfold pS
  rw [List.take_succ_eq_append_getElem h, List.map_append, List.sum_append, List.getD_eq_getElem?_getD (l := l), List.getElem?_eq_getElem h]
  simp
theorem pS_all (l : List (List Int)) (j : Nat) : pS l j l.length = colSum l j := by unfold pS colSum; rw [List.take_length]
theorem pS_bound {n : Int} {l : List (List Int)} {j : Nat} (hn : n ≤ 52) (hj : (j : Int) < n - 1) (h : ∀ y, y < l.length → fitsV n (l.getD y []) = 0) : ∀ x, x ≤ l.length → 0 ≤ pS l j x ∧ pS l j x ≤ 52 * x
  | 0, _ => by simp [pS]
  | x + 1, hx => by
    obtain ⟨h1, h2⟩ := pS_bound hn hj h x (by omega)
    obtain ⟨h3, h4⟩ := fitsV_ok (h x (by omega))
    have h5 := h4 j (by omega)
    rw [pS_succ (by omega)]
    omega
def outTo (n : Int) (l : List (List Int)) (j : Nat) : List Int := (List.range j).map fun j => colSum l j % (n - j)
theorem outTo_succ (n : Int) (l : List (List Int)) (j : Nat) : outTo n l (j + 1) = outTo n l j ++ [colSum l j % (n - j)] := by
  unfold outTo
  rw [List.range_succ, List.map_append]
  rfl
theorem comb_con {n : Int} {l : List (List Int)} {Q : AV → List HObj → Prop} (h : combC n l Q) : Con Try.prog 27 [.int .i64 n, .imm (.one (.slice eI)) l] Q := by
  obtain ⟨hF, hq1, hq2, hq3⟩ := h
  refine con_of fn27 rfl fun n0 => ?_
  show GoodL _ n0 27 (resK Q) _ _
  refine good1 fn27 (LT := comb_live) (inl := []) ?_
  rw [comb_E]
  have bad : ∀ (v : Int) H, combE n l = v → v ≠ 0 → resK Q (.tup [.nils, .int .i64 v]) H := fun v H hv h0 => res_plain (by rw [← hv]; exact hq1 (by rw [hv]; exact h0)) rfl rfl
  by_cases h0 : n < 0
  · rw [cpos (decide_eq_true h0)]
    exact bad 4 _ (by unfold combE; rw [if_pos (.inl h0)]) (by decide)
  · rw [cneg (decide_eq_false h0)]
    by_cases h1 : n > 52
    · rw [cpos (by simpa using h1)]
      exact bad 4 _ (by unfold combE; rw [if_pos (.inr h1)]) (by decide)
    · rw [cneg (by simpa using h1)]
      by_cases h2 : l.length > 6
      · rw [cpos (decide_eq_true (by omega))]
        exact bad 2 _ (by unfold combE; rw [if_neg (by omega), if_pos h2]) (by decide)
      · rw [cneg (decide_eq_false (by omega))]
        have hce : combE n l = firstE n l := by unfold combE; rw [if_neg (by omega), if_neg h2]
        -- the columns
        have cols : (∀ y, y < l.length → fitsV n (l.getD y []) = 0) → GoodL Try.prog n0 27 (resK Q) (headAt (fnT Try.f27) 14) (comb_s14_0 n l (max 0 (n - 1)) 0) := fun hall => by
          have hz : combE n l = 0 := by rw [hce]; exact firstE_all hall
          refine round_ok (good1 fn27 (LT := comb_live) (inl := []) ?_)
          rw [comb_s14_0_E]
          by_cases hm : n ≤ 1
          · rw [cneg (decide_eq_false (by omega))]
            exact res_plain (hq2 hz hm) rfl rfl
          · rw [cpos (decide_eq_true (by omega))]
            have hmx : max 0 (n - 1) = n - 1 := by omega
            rw [hmx]
            have hlenr : ∀ y, y < l.length → ((l.getD y []).length : Int) = n - 1 := fun y hy => by
              have := (fitsV_ok (hall y hy)).1
              omega
            -- from the second column on
            have outer := loop_rule (P := Try.prog) (n0 := n0) (f := 27) (K := resK Q) (todo := headAt (fnT Try.f27) 14) (S := fun j : Nat => comb_s14_1 n l (n - 1) (j : Int) (outTo n l j)) (fun j : Nat => (n - 1).toNat - j)
              (fun j => (j : Int) ≤ n - 1) (fun j hj0 ih => by
                refine round_ok (good1 fn27 (LT := comb_live) (inl := []) ?_)
                rw [comb_s14_1_E]
                by_cases hj : (j : Int) < n - 1
                · rw [cpos (decide_eq_true hj)]
                  have inner := loop_rule (P := Try.prog) (n0 := n0) (f := 27) (K := resK Q) (todo := headAt (fnT Try.f27) 18) (S := fun x : Nat => comb_s18_1 n l (j : Int) (pS l j x) (n - 1) (j : Int) (l.length : Int) (x : Int) (outTo n l j)) (fun x : Nat => l.length - x)
                    (fun x => x ≤ l.length) (fun x hx0 ihx => by
                      refine round_ok (good1 fn27 (LT := comb_live) (inl := []) ?_)
                      rw [comb_s18_1_E]
                      have hb := pS_bound (by omega) hj hall x hx0
                      by_cases hx : x < l.length
                      · have hbs := pS_bound (by omega) hj hall (x + 1) (by omega)
                        have hr := hlenr x hx
                        rw [pS_succ hx] at hbs
                        rw [cpos (decide_eq_true (by omega)), cpos (by rw [decide_eq_true (show (0 : Int) ≤ x by omega), decide_eq_true (show (x : Int) < l.length by omega)]; rfl), Int.toNat_natCast,
                          cpos (by rw [decide_eq_true (show (0 : Int) ≤ j by omega), decide_eq_true (show (j : Int) < ((l.getD x []).length : Int) by omega)]; rfl), Int.toNat_natCast, wr (n := pS l j x + _) (by omega) (by omega), wr (n := (x : Int) + 1) (by omega) (by omega), ← pS_succ hx]
                        exact ihx (x + 1) (by omega) (by omega)
                      · have hxl : x = l.length := by omega
                        subst hxl
                        rw [cneg (decide_eq_false (by omega)), wr (n := n - j) (by omega) (by omega), cpos (by rw [decide_eq_false (by omega)]; rfl), cpos (fits_of (by simp [outTo]; omega) (by simp [outTo]; omega)), wr (n := (j : Int) + 1) (by omega) (by omega), pS_all, Int.tmod_eq_emod_of_nonneg (by rw [← pS_all]; exact hb.1), ← outTo_succ]
                        exact ih (j + 1) (by omega) (by omega))
                  exact inner 0 (by omega)
                · rw [cneg (decide_eq_false hj)]
                  have : outTo n l j = combOut n l := by unfold outTo combOut; congr 2; omega
                  rw [this]
                  exact res_own (hq3 hz (by omega)))
            -- the first column
            have first := loop_rule (P := Try.prog) (n0 := n0) (f := 27) (K := resK Q) (todo := headAt (fnT Try.f27) 18) (S := fun x : Nat => comb_s18_0 n l 0 (pS l 0 x) (n - 1) 0 (l.length : Int) (x : Int)) (fun x : Nat => l.length - x)
              (fun x => x ≤ l.length) (fun x hx0 ihx => by
                refine round_ok (good1 fn27 (LT := comb_live) (inl := []) ?_)
                rw [comb_s18_0_E]
                have hb := pS_bound (j := 0) (by omega) (by omega) hall x hx0
                by_cases hx : x < l.length
                · have hbs := pS_bound (j := 0) (by omega) (by omega) hall (x + 1) (by omega)
                  have hr := hlenr x hx
                  rw [pS_succ hx] at hbs
                  rw [cpos (decide_eq_true (by omega)), cpos (by rw [decide_eq_true (show (0 : Int) ≤ x by omega), decide_eq_true (show (x : Int) < l.length by omega)]; rfl), Int.toNat_natCast,
                    cpos (by rw [decide_eq_true (show (0 : Int) < ((l.getD x []).length : Int) by omega)]; rfl), show (0 : Int).toNat = 0 from rfl, wr (n := pS l 0 x + _) (by omega) (by omega), wr (n := (x : Int) + 1) (by omega) (by omega), ← pS_succ hx]
                  exact ihx (x + 1) (by omega) (by omega)
                · have hxl : x = l.length := by omega
                  subst hxl
                  rw [cneg (decide_eq_false (by omega)), wr (n := n - 0) (by omega) (by omega), cpos (by rw [decide_eq_false (by omega)]; rfl), wr (n := (0 : Int) + 1) (by omega) (by omega), pS_all, Int.tmod_eq_emod_of_nonneg (by rw [← pS_all]; exact hb.1)]
                  exact outer 1 (by omega))
            exact first 0 (by omega)
        have loop := loop_rule (P := Try.prog) (n0 := n0) (f := 27) (K := resK Q) (todo := headAt (fnT Try.f27) 6) (S := fun x : Nat => comb_s6_0 n l (l.length : Int) (x : Int)) (fun x : Nat => l.length - x)
          (fun x => x ≤ l.length ∧ ∀ y, y < x → fitsV n (l.getD y []) = 0) (fun x hp ih => by
            obtain ⟨hx0, hx1⟩ := hp
            refine round_ok (good1 fn27 (LT := comb_live) (inl := []) ?_)
            rw [comb_s6_0_E]
            by_cases hx : x < l.length
            · rw [cpos (decide_eq_true (by omega)), cpos (by rw [decide_eq_true (show (0 : Int) ≤ x by omega), decide_eq_true (show (x : Int) < l.length by omega)]; rfl), Int.toNat_natCast]
              refine ⟨⟨by omega, by omega, hF _ ?_⟩, ?_⟩
              · rw [List.getD_eq_getElem?_getD, List.getElem?_eq_getElem hx]; exact List.getElem_mem hx
              · by_cases hb : fitsV n (l.getD x []) = 0
                · rw [cneg (by rw [decide_eq_true hb]; rfl), wr (n := (x : Int) + 1) (by omega) (by omega)]
                  refine ih (x + 1) ⟨by omega, fun y hy => ?_⟩ (by omega)
                  by_cases hyx : y = x
                  · subst hyx; exact hb
                  · exact hx1 y (by omega)
                · rw [cpos (by rw [decide_eq_false hb]; rfl)]
                  exact bad _ _ (by rw [hce]; exact firstE_at hx1 hx hb) hb
            · rw [cneg (decide_eq_false (by omega)), wr (n := n - 1) (by omega) (by omega), show (if n - 1 > 0 then n - 1 else 0) = max 0 (n - 1) by omega]
              exact cols fun y hy => hx1 y (by omega))
        exact loop 0 ⟨by omega, fun y hy => by omega⟩
end Go.Proofs.Ytejcniaepjahbaa.Deal
