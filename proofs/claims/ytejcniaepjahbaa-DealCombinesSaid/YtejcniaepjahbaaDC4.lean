/- DealCombines returns true. -/
import Derived.Test.YtejcniaepjahbaaDC3
import Derived.Test.YtejcniaepjahbaaDF
set_option linter.unusedVariables false
set_option linter.unusedSimpArgs false
namespace Go.Proofs.Ytejcniaepjahbaa.Deal
open Go Go.Proofs.Ytejcniaepjahbaa.Mach
theorem con2_ok : ∀ g xs Q, con2 g xs Q → Con Try.prog g xs Q := by
  intro g xs Q h
  unfold con2 at h
  cases h1 : Nat.beq g 24 with
  | true =>
    rw [h1] at h
    rw [Nat.eq_of_beq_eq_true h1]
    have h' : a0 (.bool true) xs Q := h
    unfold a0 at h'
    split at h'
    · exact df_con h'
    · exact h'.elim
  | false =>
    rw [h1] at h
    simp only [cond_false] at h
    cases h2 : Nat.beq g 25 with
    | true =>
      rw [h2] at h
      obtain ⟨l, s, rfl, hF, hq⟩ := a2'_inv (f := sealC) h
      rw [Nat.eq_of_beq_eq_true h2]
      exact seal_con hF hq
    | false =>
      rw [h2] at h
      simp only [cond_false] at h
      cases h3 : Nat.beq g 26 with
      | true =>
        rw [h3] at h
        obtain ⟨l, s, rfl, hF, hq⟩ := a2'_inv (f := sealC) h
        rw [Nat.eq_of_beq_eq_true h3]
        exact sealof_con hF hq
      | false =>
        rw [h3] at h
        simp only [cond_false] at h
        cases h4 : Nat.beq g 27 with
        | true =>
          rw [h4] at h
          obtain ⟨n, l, rfl, hq⟩ := a2r_inv (f := combC) h
          rw [Nat.eq_of_beq_eq_true h4]
          exact comb_con hq
        | false =>
          rw [h4] at h
          simp only [cond_false] at h
          cases h5 : Nat.beq g 28 with
          | true =>
            rw [h5] at h
            obtain ⟨n, l, rfl, ⟨p1, p2, p3⟩, hq⟩ := a2_inv (f := fitsC) h
            rw [Nat.eq_of_beq_eq_true h5]
            exact drawe_con p1 p2 p3 hq
          | false => rw [h5] at h; exact h.elim
theorem good2 {n0 : Nat} {f : FuncId} {g : FnT} (hg : fnOf Try.prog f = some g) {K : AV → List HObj → Prop} {LT : List (Nat × List Nat)} {inl : List Nat} {todo : List Item} {st : St} (h : execN tab (mixK tab con2 inl 400) (maskK LT (GoodL Try.prog n0 f K)) (finK tab g.res K) 400 todo st) : GoodL Try.prog n0 f K todo st :=
  good_of tabOk hmo (mixK_ok tabOk hmo con2_ok inl 400) hg h
theorem get_mem {l : List (List Int)} {x : Nat} (h : x < l.length) : l.getD x [] ∈ l := by
  rw [List.getD_eq_getElem?_getD, List.getElem?_eq_getElem h]; exact List.getElem_mem h
theorem out_get {n : Int} {l : List (List Int)} {j : Nat} (hj : (j : Int) < n - 1) : (combOut n l).getD j 0 = colSum l j % (n - j) := by
  unfold combOut
  rw [List.getD_eq_getElem?_getD, List.getElem?_map, List.getElem?_range (by omega)]
  rfl
theorem law_con {n : Int} {l : List (List Int)} {s : Int} {Q : AV → List HObj → Prop} (hl : l.length * 8 ≤ 140737488351232) (hF : ∀ d ∈ l, Fit d) (hQ : Q (.bool true) []) : Con Try.prog 5 [.int .i64 n, .imm (.one (.slice eI)) l, .int .i64 s] Q := by
  refine con_of fn5 rfl fun n0 => ?_
  show GoodL _ n0 5 (resK Q) _ _
  have yes : ∀ H, resK Q (.bool true) H := fun H => res_plain hQ rfl rfl
  refine good2 fn5 (LT := law_live) (inl := []) ?_
  rw [law_E]
  have inb : ∀ {x y : Nat}, x < y → (decide ((0 : Int) ≤ (x : Int)) && decide ((x : Int) < (y : Int))) = true := fun {x y} h => by
    rw [decide_eq_true (show (0 : Int) ≤ x by omega), decide_eq_true (show (x : Int) < y by omega)]; rfl
  -- behind Combine: no cards (or an error)
  have part0 : ∀ (e : Int), e = combE n l → (e = 0 → n ≤ 1) → ∀ p : Nat × Int, p.1 ≤ l.length ∧ (p.2 = 0 → 0 ≤ n ∧ n ≤ 52 ∧ l.length ≤ 6 ∧ ∀ y, y < p.1 → fitsV n (l.getD y []) = 0) ∧ (p.2 ≠ 0 → p.2 = e) → GoodL Try.prog n0 5 (resK Q) (headAt (fnT Try.f5) 16) (law_s16_0 n l s e p.2 (l.length : Int) (p.1 : Int)) := fun e he hn1 =>
    loop_rule (P := Try.prog) (n0 := n0) (f := 5) (K := resK Q) (todo := headAt (fnT Try.f5) 16) (S := fun p : Nat × Int => law_s16_0 n l s e p.2 (l.length : Int) (p.1 : Int)) (fun p : Nat × Int => l.length - p.1)
      (fun p => p.1 ≤ l.length ∧ (p.2 = 0 → 0 ≤ n ∧ n ≤ 52 ∧ l.length ≤ 6 ∧ ∀ y, y < p.1 → fitsV n (l.getD y []) = 0) ∧ (p.2 ≠ 0 → p.2 = e)) (fun p hp ih => by
        obtain ⟨x, w⟩ := p
        obtain ⟨hx0, hw0, hw1⟩ := hp
        simp only at hx0 hw0 hw1 ih ⊢
        refine round_ok (good2 fn5 (LT := law_live) (inl := []) ?_)
        rw [law_s16_0_E]
        have hce : 0 ≤ n → n ≤ 52 → l.length ≤ 6 → combE n l = firstE n l := fun a b c => by unfold combE; rw [if_neg (by omega), if_neg (by omega)]
        by_cases hx : x < l.length
        · rw [cpos (decide_eq_true (by omega)), cpos (inb hx), Int.toNat_natCast, wr (n := (x : Int) + 1) (by omega) (by omega)]
          by_cases hw : w = 0
          · obtain ⟨a1, a2, a3, a4⟩ := hw0 hw
            rw [cpos (decide_eq_true hw)]
            refine ⟨⟨a1, a2, hF _ (get_mem hx)⟩, ih (x + 1, fitsV n (l.getD x [])) ⟨by simp only; omega, fun h0 => ⟨a1, a2, a3, fun y hy => ?_⟩, fun h0 => ?_⟩ (by simp only; omega)⟩
            · by_cases hyx : y = x
              · subst hyx; exact h0
              · exact a4 y (by simp only at hy; omega)
            · rw [he, hce a1 a2 a3]; exact (firstE_at a4 hx h0).symm
          · rw [cneg (decide_eq_false hw)]
            exact ih (x + 1, w) ⟨by simp only; omega, fun h0 => absurd h0 hw, hw1⟩ (by simp only; omega)
        · rw [cneg (decide_eq_false (by omega))]
          by_cases hw : w = 0
          · obtain ⟨a1, a2, a3, a4⟩ := hw0 hw
            have he0 : e = 0 := by rw [he, hce a1 a2 a3]; exact firstE_all fun y hy => a4 y (by omega)
            have := hn1 he0
            rw [cneg (by rw [decide_eq_true hw]; rfl), cneg (by rw [decide_eq_true he0]; rfl), wr (n := n - 1) (by omega) (by omega), cneg (by rw [decide_eq_true (show (0 : Int) = if n - 1 > 0 then n - 1 else 0 by omega)]; rfl)]
            refine round_ok (good2 fn5 (LT := law_live) (inl := []) ?_)
            rw [law_s26_0_E, cneg (by decide)]
            exact yes _
          · rw [cpos (by rw [decide_eq_false hw]; rfl), cpos (decide_eq_true (hw1 hw).symm)]
            exact yes _)
  -- behind Combine: cards
  have part1 : 1 < n → n ≤ 52 → l.length ≤ 6 → combE n l = 0 → ∀ x : Nat, x ≤ l.length ∧ (∀ y, y < x → fitsV n (l.getD y []) = 0) → GoodL Try.prog n0 5 (resK Q) (headAt (fnT Try.f5) 16) (law_s16_1 n l s 0 0 (l.length : Int) (x : Int) (combOut n l)) := fun hn1 hn2 hl6 hce0 => by
    have hce : combE n l = firstE n l := by unfold combE; rw [if_neg (by omega), if_neg (by omega)]
    have hol : (combOut n l).length = (n - 1).toNat := by simp [combOut]
    -- the columns are checked
    have cols : (∀ y, y < l.length → fitsV n (l.getD y []) = 0) → ∀ j : Nat, (j : Int) ≤ n - 1 → GoodL Try.prog n0 5 (resK Q) (headAt (fnT Try.f5) 26) (law_s26_1 n l s ((combOut n l).length : Int) (j : Int) (combOut n l)) := fun hall =>
      loop_rule (P := Try.prog) (n0 := n0) (f := 5) (K := resK Q) (todo := headAt (fnT Try.f5) 26) (S := fun j : Nat => law_s26_1 n l s ((combOut n l).length : Int) (j : Int) (combOut n l)) (fun j : Nat => (n - 1).toNat - j)
        (fun j => (j : Int) ≤ n - 1) (fun j hj0 ih => by
          refine round_ok (good2 fn5 (LT := law_live) (inl := []) ?_)
          rw [law_s26_1_E]
          by_cases hj : (j : Int) < n - 1
          · rw [cpos (decide_eq_true (by omega)), cpos (inb (by omega)), Int.toNat_natCast]
            have hcs := pS_bound (by omega) hj hall l.length (Nat.le_refl _)
            rw [pS_all] at hcs
            have hm0 : 0 ≤ colSum l j % (n - j) := Int.emod_nonneg _ (by omega)
            have hm1 : colSum l j % (n - j) < n - j := Int.emod_lt_of_pos _ (by omega)
            have inner := loop_rule (P := Try.prog) (n0 := n0) (f := 5) (K := resK Q) (todo := headAt (fnT Try.f5) 29) (S := fun x : Nat => law_s29_0 n l s (j : Int) ((combOut n l).getD j 0 - pS l j x) ((combOut n l).length : Int) (j : Int) (l.length : Int) (x : Int) (combOut n l)) (fun x : Nat => l.length - x)
              (fun x => x ≤ l.length) (fun x hx0 ihx => by
                refine round_ok (good2 fn5 (LT := law_live) (inl := []) ?_)
                rw [law_s29_0_E]
                have hb := pS_bound (by omega) hj hall x hx0
                by_cases hx : x < l.length
                · have hr := (fitsV_ok (hall x hx)).1
                  have hbs := pS_bound (by omega) hj hall (x + 1) (by omega)
                  rw [pS_succ hx] at hbs
                  rw [cpos (decide_eq_true (by omega)), cpos (inb hx), Int.toNat_natCast, cpos (inb (by omega)), Int.toNat_natCast, out_get hj, wr (n := _ - pS l j x - _) (by omega) (by omega), wr (n := (x : Int) + 1) (by omega) (by omega)]
                  have := ihx (x + 1) (by omega) (by omega)
                  rw [out_get hj, pS_succ hx] at this
                  rw [show colSum l j % (n - j) - pS l j x - (l.getD x []).getD j 0 = colSum l j % (n - j) - (pS l j x + (l.getD x []).getD j 0) by omega]
                  exact this
                · have hxl : x = l.length := by omega
                  subst hxl
                  rw [cneg (decide_eq_false (by omega)), cpos (inb (by omega)), Int.toNat_natCast, cneg (decide_eq_false (by rw [out_get hj]; omega)), cpos (inb (by omega)), wr (n := n - j) (by omega) (by omega),
                    cneg (by rw [decide_eq_false (by rw [out_get hj]; omega)]; rfl), cpos (by rw [decide_eq_false (by omega)]; rfl), cneg (by
                      rw [decide_eq_true (show ((combOut n l).getD j 0 - pS l j l.length).tmod (n - j) = 0 by
                        rw [out_get hj, pS_all]
                        apply Int.tmod_eq_zero_of_dvd
                        refine ⟨-(colSum l j / (n - j)), ?_⟩
                        have := Int.emod_add_mul_ediv (colSum l j) (n - j)
                        rw [Int.mul_neg]
                        omega)]; rfl), wr (n := (j : Int) + 1) (by omega) (by omega)]
                  exact ih (j + 1) (by omega) (by omega))
            have h1 := inner 0 (by omega)
            rw [show (combOut n l).getD j 0 - pS l j 0 = (combOut n l).getD j 0 by simp [pS]] at h1
            exact h1
          · rw [cneg (decide_eq_false (by omega))]
            exact yes _)
    exact loop_rule (P := Try.prog) (n0 := n0) (f := 5) (K := resK Q) (todo := headAt (fnT Try.f5) 16) (S := fun x : Nat => law_s16_1 n l s 0 0 (l.length : Int) (x : Int) (combOut n l)) (fun x : Nat => l.length - x)
      (fun x => x ≤ l.length ∧ ∀ y, y < x → fitsV n (l.getD y []) = 0) (fun x hp ih => by
        obtain ⟨hx0, hx1⟩ := hp
        refine round_ok (good2 fn5 (LT := law_live) (inl := []) ?_)
        rw [law_s16_1_E]
        by_cases hx : x < l.length
        · rw [cpos (decide_eq_true (by omega)), cpos (inb hx), Int.toNat_natCast, wr (n := (x : Int) + 1) (by omega) (by omega), cpos (by decide)]
          have hz : fitsV n (l.getD x []) = 0 := by
            by_cases hb : fitsV n (l.getD x []) = 0
            · exact hb
            · have := firstE_at hx1 hx hb
              rw [← hce, hce0] at this
              exact absurd this.symm hb
          rw [hz]
          refine ⟨⟨by omega, by omega, hF _ (get_mem hx)⟩, ih (x + 1) ⟨by omega, fun y hy => ?_⟩ (by omega)⟩
          by_cases hyx : y = x
          · subst hyx; exact hz
          · exact hx1 y (by omega)
        · rw [cneg (decide_eq_false (by omega)), cneg (by decide), cneg (by decide), wr (n := n - 1) (by omega) (by omega), cneg (by rw [decide_eq_true (show ((combOut n l).length : Int) = if n - 1 > 0 then n - 1 else 0 by rw [hol]; omega)]; rfl)]
          exact cols (fun y hy => hx1 y (by omega)) 0 (by omega))
  -- the seals
  have loop := loop_rule (P := Try.prog) (n0 := n0) (f := 5) (K := resK Q) (todo := headAt (fnT Try.f5) 4) (S := fun x : Nat => law_s4_0 n l s (l.length : Int) (x : Int)) (fun x : Nat => l.length - x)
    (fun x => x ≤ l.length) (fun x hx0 ih => by
      refine round_ok (good2 fn5 (LT := law_live) (inl := []) ?_)
      rw [law_s4_0_E]
      by_cases hx : x < l.length
      · rw [cpos (decide_eq_true (by omega)), cpos (inb hx), Int.toNat_natCast, wr (n := (x : Int) + 1) (by omega) (by omega)]
        refine ⟨hF _ (get_mem hx), hF _ (get_mem hx), ?_⟩
        rw [cneg (by rw [decide_eq_true rfl]; rfl)]
        exact ih (x + 1) (by omega) (by omega)
      · rw [cneg (decide_eq_false (by omega))]
        have start : ∀ e, e = combE n l → (e = 0 → n ≤ 1) → ∀ w : Int, (w = 0 → 0 ≤ n ∧ n ≤ 52 ∧ l.length ≤ 6) → (w ≠ 0 → w = e) → GoodL Try.prog n0 5 (resK Q) (headAt (fnT Try.f5) 16) (law_s16_0 n l s e w (l.length : Int) 0) := fun e he h1 w h2 h3 =>
          part0 e he h1 (0, w) ⟨by simp only; omega, fun h0 => ⟨(h2 h0).1, (h2 h0).2.1, (h2 h0).2.2, fun y hy => by simp only at hy; omega⟩, h3⟩
        refine ⟨hF, fun hne => ?_, fun hz hn1 => ?_, fun hz hn1 => ?_⟩
        · by_cases h0 : n < 0
          · rw [cpos (decide_eq_true h0)]
            exact start _ rfl (fun h => absurd h hne) 4 (fun h => by omega) (fun _ => by unfold combE; rw [if_pos (.inl h0)])
          · rw [cneg (decide_eq_false h0)]
            by_cases h1 : n > 52
            · rw [cpos (by simpa using h1)]
              exact start _ rfl (fun h => absurd h hne) 4 (fun h => by omega) (fun _ => by unfold combE; rw [if_pos (.inr h1)])
            · rw [cneg (by simpa using h1)]
              by_cases h2 : l.length > 6
              · rw [cpos (by simp; omega)]
                exact start _ rfl (fun h => absurd h hne) 2 (fun h => by omega) (fun _ => by unfold combE; rw [if_neg (by omega), if_pos h2])
              · rw [cneg (by simp; omega)]
                exact start _ rfl (fun h => absurd h hne) 0 (fun _ => ⟨by omega, by omega, by omega⟩) (fun h => absurd rfl h)
        · have hr : 0 ≤ n ∧ n ≤ 52 ∧ l.length ≤ 6 := by
            unfold combE at hz
            split at hz
            · omega
            · split at hz
              · omega
              · omega
          rw [cneg (decide_eq_false (by omega)), cneg (by simp; omega), cneg (by simp; omega)]
          exact start 0 hz.symm (fun _ => hn1) 0 (fun _ => hr) (fun h => absurd rfl h)
        · have hr : 0 ≤ n ∧ n ≤ 52 ∧ l.length ≤ 6 := by
            unfold combE at hz
            split at hz
            · omega
            · split at hz
              · omega
              · omega
          rw [cneg (decide_eq_false (by omega)), cneg (by simp; omega), cneg (by simp; omega)]
          exact part1 hn1 hr.2.1 hr.2.2 hz 0 ⟨by omega, fun y hy => by omega⟩)
  exact loop 0 (by omega)
end Go.Proofs.Ytejcniaepjahbaa.Deal
