/- The pure statement of NatCounts: Factorial and Binomial against products and sums. -/
import Derived.Test.YtolikobhjmnedaaDoorNatBoth
import Derived.Test.YtolikobhjmnedaaDoorNatOf
set_option linter.unusedSimpArgs false
set_option linter.unusedVariables false
namespace Go.Proofs.YtolikobhjmnedaaDoor.Pure
open Go.RowKit Go.Proofs.YtolikobhjmnedaaDoor.GN Go.Proofs.YtolikobhjmnedaaDoorW.PrintWords Go.Proofs.YtolikobhjmnedaaDoorW.PrintLast Go.Proofs.YtolikobhjmnedaaDoor.Aid Go.Proofs.YtolikobhjmnedaaDoor.NatVal

def fac : Nat → Int
  | 0 => 1
  | n + 1 => fac n * ((n + 1 : Nat) : Int)
def bin (n : Nat) : Nat → Int
  | 0 => 1
  | m + 1 => bin n m * ((n - m : Nat) : Int) / ((m + 1 : Nat) : Int)
def pas : Nat → List Int
  | 0 => [1]
  | r + 1 => [1] ++ (List.range ((pas r).length - 1)).map (fun (j : Nat) => rd (pas r) (j : Int) + rd (pas r) ((j + 1 : Nat) : Int)) ++ [1]
theorem bin_pas : ∀ n, n < 26 → ∀ k, k < n + 1 → bin n (min k (n - k)) = rd (pas n) (k : Int) := by decide +kernel
theorem bin_small : ∀ n, n < 26 → ∀ k, k < n + 1 → bin n k < 10 ^ 20 := by decide +kernel
theorem fac_small : ∀ n, n < 26 → fac n < 10 ^ 30 := by decide +kernel
theorem pas_len : ∀ n, n < 27 → (pas n).length = n + 1 := by decide +kernel
theorem pas_small : ∀ n, n < 27 → ∀ x, x ∈ pas n → 0 ≤ x ∧ x < 10 ^ 20 := by decide +kernel
theorem bin_nonneg (n : Nat) : ∀ m, 0 ≤ bin n m
  | 0 => by simp [bin]
  | m + 1 => by
    simp only [bin]
    exact Int.ediv_nonneg (Int.mul_nonneg (bin_nonneg n m) (by omega)) (by omega)
theorem short_num {l : List Int} {v : Int} (h : Limbs l v) (hv : v < 1000000000) : l.length ≤ 1 := limbs_short h 1 (by rw [Int.pow_one]; exact hv)
/-- what Factorial returns -/
theorem fact_l0 (n : Nat) (hn : n ≤ 1000) (d : Nat) : ∀ (j : Nat) (out : List Int), 1 ≤ j → j + d = max n 1 → Limbs out (fac j) → out.length ≤ j + 1 →
    ∃ z : ByteArray × Int, Ev (fun k => nat_Factorial.l0 k (n : Int) out ((j + 1 : Nat) : Int)) z ∧ (z = (⟨#[]⟩, 2) ∨ z.2 = 0 ∧ Canon z.1 (fac (max n 1))) ∧ (n < 26 → z.2 = 0) := by
  induction d with
  | zero =>
    intro j out hj1 hj ho hl
    obtain ⟨t, t1, t2, t3⟩ := told_ev ho (by omega)
    have hjm : j = max n 1 := by omega
    subst hjm
    refine ⟨toldOf t, ?_, ?_, fun h => ?_⟩
    · refine Ev.step (fun k => nat_Factorial.l0.eq_2 _ _ _ k) ?_
      exact Ev.no (by omega) (Ev.bind1 t1 (Ev.now _))
    · unfold toldOf
      split
      · exact .inl rfl
      · exact .inr ⟨rfl, t2⟩
    · unfold toldOf
      have := canon_size t2 30 (by omega) (fac_small (max n 1) (by omega))
      rw [if_neg (by omega)]
  | succ d ih =>
    intro j out hj1 hj ho hl
    obtain ⟨a, a1, a2⟩ := of_ev (j + 1) (by omega)
    have hal := short_num a2 (by omega)
    obtain ⟨r, r1, r2, r3⟩ := mul_ev ho a2 (by omega)
    obtain ⟨t, t1, t2, t3⟩ := text_ev r2 (by omega)
    have hd : Ev (fun k => nat_N_Digits.f k r) (t.size : Int) := by
      unfold nat_N_Digits.f
      exact Ev.bind1 t1 (Ev.now _)
    have hle : ((j + 1 : Nat) : Int) ≤ (n : Int) := by omega
    by_cases hbig : (t.size : Int) > 2000
    · refine ⟨(⟨#[]⟩, 2), ?_, .inl rfl, fun h => ?_⟩
      · refine Ev.step (fun k => nat_Factorial.l0.eq_2 _ _ _ k) ?_
        exact Ev.yes hle (Ev.bind1 a1 (Ev.bind1 r1 (Ev.bind1 hd (Ev.yes hbig (Ev.now _)))))
      · have := canon_size t2 30 (by omega) (fac_small (j + 1) (by omega))
        omega
    · obtain ⟨z, z1, z2⟩ := ih (j + 1) r (by omega) (by omega) r2 (by omega)
      refine ⟨z, ?_, z2⟩
      refine Ev.step (fun k => nat_Factorial.l0.eq_2 _ _ _ k) ?_
      rw [w64s (by omega)]
      exact Ev.yes hle (Ev.bind1 a1 (Ev.bind1 r1 (Ev.bind1 hd (Ev.no hbig z1))))
theorem fac_max (n : Nat) : fac (max n 1) = fac n := by
  by_cases h : n = 0
  · subst h; rfl
  · rw [Nat.max_eq_left (by omega)]
theorem one_ev : ∃ r, Ev (fun k => nat_Of.f k 1) r ∧ Limbs r 1 := by
  obtain ⟨r, r1, r2⟩ := of_ev 1 (by omega)
  exact ⟨r, r1, r2⟩
theorem factorial_ev (n : Nat) (hn : n ≤ 1000) : ∃ z : ByteArray × Int, Ev (fun k => nat_Factorial.f k (n : Int)) z ∧ (z = (⟨#[]⟩, 2) ∨ z.2 = 0 ∧ Canon z.1 (fac n)) ∧ (n < 26 → z.2 = 0) := by
  obtain ⟨a, a1, a2⟩ := one_ev
  have hal := short_num a2 (by omega)
  obtain ⟨z, z1, z2, z3⟩ := fact_l0 n hn (max n 1 - 1) 1 a (by omega) (by omega) a2 (by omega)
  rw [fac_max] at z2
  refine ⟨z, ?_, z2, z3⟩
  unfold nat_Factorial.f
  refine Ev.no (by omega) ?_
  refine Ev.step (fun k => nat_Factorial.j0.eq_2 _ _ k) ?_
  exact Ev.no (by simp; omega) (Ev.bind1 a1 z1)
theorem factorial_bad (n : Int) (h : n < 0 ∨ n > 1000) : Ev (fun k => nat_Factorial.f k n) (⟨#[]⟩, 4) := by
  unfold nat_Factorial.f
  have hj : Ev (fun k => nat_Factorial.j0 k n true) (⟨#[]⟩, 4) := by
    refine Ev.step (fun k => nat_Factorial.j0.eq_2 _ _ k) ?_
    exact Ev.yes rfl (Ev.now _)
  by_cases h0 : n < 0
  · exact Ev.yes h0 hj
  · refine Ev.no h0 ?_
    rw [decide_eq_true (show n > 1000 by omega)]
    exact hj
/-- what Binomial returns -/
theorem bin_l0 (n k0 : Nat) (hn : n ≤ 1000) (hk : k0 ≤ n) (d : Nat) : ∀ (j : Nat) (out : List Int), j + d = min k0 (n - k0) → Limbs out (bin n j) → out.length ≤ j + 1 →
    ∃ t, Ev (fun k => nat_Binomial.l0 k (n : Int) (k0 : Int) out ((j + 1 : Nat) : Int)) (toldOf t) ∧ Canon t (bin n (min k0 (n - k0))) := by
  have hmn : mn (k0 : Int) (wrap64 ((n : Int) - (k0 : Int))) = ((min k0 (n - k0) : Nat) : Int) := by
    rw [w64 (by omega) (by omega)]
    unfold mn
    omega
  induction d with
  | zero =>
    intro j out hj ho hl
    obtain ⟨t, t1, t2, t3⟩ := told_ev ho (by omega)
    have hjm : j = min k0 (n - k0) := by omega
    subst hjm
    refine ⟨t, ?_, t2⟩
    refine Ev.step (fun k => nat_Binomial.l0.eq_2 _ _ _ _ k) ?_
    rw [hmn]
    exact Ev.no (by omega) (Ev.bind1 t1 (Ev.now _))
  | succ d ih =>
    intro j out hj ho hl
    obtain ⟨a, a1, a2⟩ := of_ev (n - j) (by omega)
    obtain ⟨b, b1, b2⟩ := of_ev (j + 1) (by omega)
    have hal := short_num a2 (by omega)
    have hbl := short_num b2 (by omega)
    obtain ⟨r, r1, r2, r3⟩ := mul_ev ho a2 (by omega)
    obtain ⟨q, m, q1, q2, q3, q4, q5⟩ := div_ev r2 b2 (by omega) (by omega)
    have hql : q.length ≤ r.length := limbs_len q2 r2 (by
      have h0 := limbs_nonneg r2
      exact Int.ediv_le_self _ h0)
    obtain ⟨t, t1, t2⟩ := ih (j + 1) q (by omega) q2 (by omega)
    refine ⟨t, ?_, t2⟩
    refine Ev.step (fun k => nat_Binomial.l0.eq_2 _ _ _ _ k) ?_
    have e1 : wrap64 (wrap64 ((n : Int) - ((j + 1 : Nat) : Int)) + 1) = ((n - j : Nat) : Int) := by
      rw [w64 (i := (n : Int) - ((j + 1 : Nat) : Int)) (by omega) (by omega), w64] <;> omega
    rw [hmn, e1, w64s (by omega)]
    exact Ev.yes (by omega) (Ev.bind1 a1 (Ev.bind1 r1 (Ev.bind1 b1 (Ev.bind1 q1 t1))))
theorem binomial_ev (n k0 : Nat) (hn : n ≤ 1000) (hk : k0 ≤ n) : ∃ t, Ev (fun k => nat_Binomial.f k (n : Int) (k0 : Int)) (toldOf t) ∧ Canon t (bin n (min k0 (n - k0))) := by
  obtain ⟨a, a1, a2⟩ := one_ev
  have hal := short_num a2 (by omega)
  obtain ⟨t, t1, t2⟩ := bin_l0 n k0 hn hk (min k0 (n - k0)) 0 a (by omega) a2 (by omega)
  refine ⟨t, ?_, t2⟩
  unfold nat_Binomial.f
  refine Ev.no (by omega) (Ev.no (by omega) (Ev.no (by omega) ?_))
  refine Ev.step (fun k => nat_Binomial.j0.eq_2 _ _ _ k) ?_
  exact Ev.no (by simp; omega) (Ev.bind1 a1 t1)
theorem binomial_bad (n k0 : Int) (h : n < 0 ∨ n > 1000 ∨ k0 < 0 ∨ k0 > n) : Ev (fun k => nat_Binomial.f k n k0) (⟨#[]⟩, 4) := by
  unfold nat_Binomial.f
  have hj : Ev (fun k => nat_Binomial.j0 k n k0 true) (⟨#[]⟩, 4) := by
    refine Ev.step (fun k => nat_Binomial.j0.eq_2 _ _ _ k) ?_
    exact Ev.yes rfl (Ev.now _)
  refine Ev.ite (fun _ => hj) (fun h0 => Ev.ite (fun _ => hj) (fun h1 => Ev.ite (fun _ => hj) (fun h2 => ?_)))
  rw [decide_eq_true (show k0 > n by omega)]
  exact hj
/-! ### the law's own products and rows -/
def Texts (row : List ByteArray) (l : List Int) : Prop := row.length = l.length ∧ ∀ j : Nat, j < l.length → Canon (rdOf ByteArray.empty row (j : Int)) (rd l (j : Int))
theorem texts_nil : Texts [] [] := ⟨rfl, fun j h => by simp at h⟩
theorem texts_snoc {row : List ByteArray} {l : List Int} {t : ByteArray} {v : Int} (h : Texts row l) (ht : Canon t v) : Texts (row ++ [t]) (l ++ [v]) := by
  refine ⟨by simp [h.1], fun j hj => ?_⟩
  by_cases hlt : j < l.length
  · have := h.2 j hlt
    simpa [rdOf, rd, List.getElem?_append_left (show j < row.length by rw [h.1]; exact hlt), List.getElem?_append_left hlt] using this
  · have : j = l.length := by simp at hj; omega
    subst this
    have e1 : rdOf ByteArray.empty (row ++ [t]) ((l.length : Nat) : Int) = t := by simp [rdOf, ← h.1]
    have e2 : rd (l ++ [v]) ((l.length : Nat) : Int) = v := by simp [rd]
    rw [e1, e2]; exact ht
theorem canon_one : Canon (⟨#[49]⟩ : ByteArray) 1 := ⟨asc_cons (l := []) (by decide) (fun c hc => by simp at hc), rfl, by decide, fun z => by revert z; decide⟩
theorem mid_succ (l : List Int) (j : Nat) : [1] ++ (List.range (j + 1)).map (fun (j : Nat) => rd l (j : Int) + rd l ((j + 1 : Nat) : Int)) = ([1] ++ (List.range j).map (fun (j : Nat) => rd l (j : Int) + rd l ((j + 1 : Nat) : Int))) ++ [rd l (j : Int) + rd l ((j + 1 : Nat) : Int)] := by
  rw [List.range_succ, List.map_append, ← List.append_assoc]; rfl
section
variable (n k0 : Int) (f : ByteArray) (e : Int) (b : ByteArray) (g : Int) (x : ByteArray) (R : Bool)
theorem law_l2 (r : Nat) (hr : r < 26) (row : List ByteArray) (hrow : Texts row (pas r)) (m : Int)
    (next : ∀ row', Texts row' (pas (r + 1)) → Ev (fun k => gamehalllaw2_NatCounts.l1 k n k0 f e b g x row' m (wrap64 ((r : Int) + 1))) R) (d : Nat) :
    ∀ (j : Nat) (nx : List ByteArray), j + d = r → Texts nx ([1] ++ (List.range j).map (fun (j : Nat) => rd (pas r) (j : Int) + rd (pas r) ((j + 1 : Nat) : Int))) →
      Ev (fun k => gamehalllaw2_NatCounts.l2 k n k0 f e b g x row nx m (r : Int) (r : Int) (j : Int)) R := by
  have hpl := pas_len r (by omega)
  have hps := pas_small r (by omega)
  induction d with
  | zero =>
    intro j nx hj hnx
    have hnl := hnx.1
    simp only [List.length_append, List.length_map, List.length_range, List.length_singleton] at hnl
    refine Ev.step (fun k => gamehalllaw2_NatCounts.l2.eq_2 _ _ _ _ _ _ _ _ _ _ _ _ _ k) ?_
    refine Ev.no (by omega) (Ev.yes (by omega) (next _ ?_))
    have := texts_snoc hnx canon_one
    show Texts _ ([1] ++ (List.range ((pas r).length - 1)).map (fun (j : Nat) => rd (pas r) (j : Int) + rd (pas r) ((j + 1 : Nat) : Int)) ++ [1])
    rw [hpl, show r + 1 - 1 = j by omega]
    exact this
  | succ d ih =>
    intro j nx hj hnx
    have hnl := hnx.1
    simp only [List.length_append, List.length_map, List.length_range, List.length_singleton] at hnl
    have c1 := hrow.2 j (by omega)
    have c2 := hrow.2 (j + 1) (by omega)
    have m1 := hps _ (mem_rd (pas r) j (by omega))
    have m2 := hps _ (mem_rd (pas r) (j + 1) (by omega))
    have s1 := canon_size c1 20 (by omega) m1.2
    have s2 := canon_size c2 20 (by omega) m2.2
    obtain ⟨t, t1, t2, t3⟩ := radd_ev c1 c2 (by omega) (by omega)
    have hrl := hrow.1
    refine Ev.step (fun k => gamehalllaw2_NatCounts.l2.eq_2 _ _ _ _ _ _ _ _ _ _ _ _ _ k) ?_
    rw [w64s (by omega)]
    refine Ev.yes (by omega) (Ev.yes (by omega) (Ev.yes (by omega) (Ev.yes (by omega) (Ev.yes (by omega) (Ev.bind1 t1 (Ev.yes (by omega) (ih (j + 1) _ (by omega) ?_)))))))
    rw [mid_succ]
    exact texts_snoc hnx t2
theorem law_l1 (N : Nat) (hN : N < 26) (fin : ∀ row, Texts row (pas N) → Ev (fun k => gamehalllaw2_NatCounts.l1 k n k0 f e b g x row (N : Int) (N : Int)) R) (d : Nat) :
    ∀ (r : Nat) (row : List ByteArray), r + d = N → Texts row (pas r) → Ev (fun k => gamehalllaw2_NatCounts.l1 k n k0 f e b g x row (N : Int) (r : Int)) R := by
  induction d with
  | zero =>
    intro r row hr hrow
    obtain rfl : r = N := by omega
    exact fin row hrow
  | succ d ih =>
    intro r row hr hrow
    have hpl := pas_len r (by omega)
    have hrl := hrow.1
    refine Ev.step (fun k => gamehalllaw2_NatCounts.l1.eq_2 _ _ _ _ _ _ _ _ _ _ k) ?_
    refine Ev.yes (by omega) (Ev.yes (by omega) ?_)
    rw [show (((row.drop 1).length : Nat) : Int) = (r : Int) by rw [List.length_drop]; omega]
    refine law_l2 n k0 f e b g x R r (by omega) row hrow N (fun row' h' => ?_) r 0 [⟨#[49]⟩] (by omega) (texts_snoc texts_nil canon_one)
    rw [w64s (by omega)]
    exact ih (r + 1) row' (by omega) h'
theorem law_l0 (N : Nat) (hN : N < 26) (fin : ∀ x', Canon x' (fac N) → Ev (fun k => gamehalllaw2_NatCounts.l1 k (N : Int) k0 f e b g x' [⟨#[49]⟩] (N : Int) 0) R) (d : Nat) :
    ∀ (j : Nat) (x : ByteArray), j + d = N → Canon x (fac j) → Ev (fun k => gamehalllaw2_NatCounts.l0 k (N : Int) k0 f e b g x (N : Int) (j : Int)) R := by
  induction d with
  | zero =>
    intro j x hj hx
    obtain rfl : j = N := by omega
    refine Ev.step (fun k => gamehalllaw2_NatCounts.l0.eq_2 _ _ _ _ _ _ _ _ _ k) ?_
    exact Ev.no (by omega) (fin x hx)
  | succ d ih =>
    intro j x hj hx
    obtain ⟨t, t1, t2, t3⟩ := ratint_ev (j + 1) (by omega)
    have hs := canon_size hx 30 (by omega) (fac_small j (by omega))
    obtain ⟨p, p1, p2, p3⟩ := rmul_ev hx t2 (by omega)
    refine Ev.step (fun k => gamehalllaw2_NatCounts.l0.eq_2 _ _ _ _ _ _ _ _ _ k) ?_
    rw [w64s (by omega)]
    exact Ev.yes (by omega) (Ev.bind1 t1 (Ev.bind1 p1 (ih (j + 1) p (by omega) p2)))
end
theorem NatCounts : gamehalllaw2_NatCounts.Pure := by
  intro a0 a1 w0 w1
  apply Ev.rounds
  unfold gamehalllaw2_NatCounts.f
  by_cases hbad : a0 < 0 ∨ a0 > 1000
  · refine Ev.bind1 fact_ev (Ev.yes rfl (Ev.bind1 (factorial_bad a0 hbad) (Ev.bind1 (binomial_bad a0 a1 (by omega)) ?_)))
    have hj : Ev (fun k => gamehalllaw2_NatCounts.j0 k a0 a1 ⟨#[]⟩ 4 ⟨#[]⟩ 4 true) true := by
      refine Ev.step (fun k => gamehalllaw2_NatCounts.j0.eq_2 _ _ _ _ _ _ _ k) ?_
      exact Ev.yes rfl (Ev.yes rfl (Ev.yes rfl (Ev.yes nil_list (Ev.now' (by simp only [nil_list]; rfl)))))
    refine Ev.ite (fun _ => hj) (fun h => ?_)
    rw [decide_eq_true (show a0 > 1000 by omega)]
    exact hj
  · obtain ⟨n, rfl⟩ : ∃ n : Nat, a0 = (n : Int) := ⟨a0.toNat, by omega⟩
    obtain ⟨z, z1, z2, z3⟩ := factorial_ev n (by omega)
    -- behind both calls
    have go : ∀ (b : ByteArray) (g : Int), Ev (fun k => nat_Binomial.f k (n : Int) a1) (b, g) → ((a1 < 0 ∨ a1 > n) → g = 4 ∧ b = ⟨#[]⟩) → (n < 26 → 0 ≤ a1 → a1 ≤ n → g = 0 ∧ Canon b (rd (pas n) a1)) →
        Ev (fun k => (nat_Factorial.f k (n : Int)).bind fun bt483 => ((nat_Binomial.f k (n : Int) a1).bind fun bt485 => (if (n : Int) < 0 then (gamehalllaw2_NatCounts.j0 k (n : Int) a1 bt483.1 bt483.2 bt485.1 bt485.2 true) else (gamehalllaw2_NatCounts.j0 k (n : Int) a1 bt483.1 bt483.2 bt485.1 bt485.2 (decide ((n : Int) > 1000)))))) true := by
      intro b g hb hout hin
      refine Ev.bind1 z1 (Ev.bind1 hb (Ev.no (by omega) ?_))
      rw [decide_eq_false (show ¬ (n : Int) > 1000 by omega)]
      have j2 : Ev (fun k => gamehalllaw2_NatCounts.j2 k (n : Int) a1 z.1 z.2 b g) true := by
        refine Ev.step (fun k => gamehalllaw2_NatCounts.j2.eq_2 _ _ _ _ _ _ k) ?_
        by_cases h25 : (n : Int) > 25
        · refine Ev.yes h25 ?_
          rcases z2 with h | h
          · rw [h]
            exact Ev.no (by decide) (Ev.yes rfl (Ev.now' (by simp only [nil_list]; rfl)))
          · exact Ev.yes h.1 (Ev.now _)
        · refine Ev.no h25 ?_
          have hn26 : n < 26 := by omega
          have hz0 := z3 hn26
          have hzc : Canon z.1 (fac n) := by
            rcases z2 with h | h
            · rw [h] at hz0; simp at hz0
            · exact h.2
          refine law_l0 a1 z.1 z.2 b g true n hn26 (fun x' hx' => ?_) n 0 ⟨#[49]⟩ (by omega) canon_one
          refine law_l1 (n : Int) a1 z.1 z.2 b g x' true n hn26 (fun row hrow => ?_) n 0 [⟨#[49]⟩] (by omega) (texts_snoc texts_nil canon_one)
          refine Ev.step (fun k => gamehalllaw2_NatCounts.l1.eq_2 _ _ _ _ _ _ _ _ _ _ k) ?_
          refine Ev.no (by omega) (Ev.yes hz0 (Ev.yes (canon_inj hzc hx') ?_))
          refine Ev.ite (fun _ => Ev.now _) (fun h1 => Ev.ite (fun _ => Ev.now _) (fun h2 => ?_))
          obtain ⟨hg, hbc⟩ := hin hn26 (by omega) (by omega)
          have hrl := hrow.1
          rw [pas_len n (by omega)] at hrl
          refine Ev.yes hg (Ev.yes (by omega) (Ev.yes (by omega) (Ev.now' ?_)))
          obtain ⟨kk, rfl⟩ : ∃ kk : Nat, a1 = (kk : Int) := ⟨a1.toNat, by omega⟩
          have := hrow.2 kk (by rw [pas_len n (by omega)]; omega)
          simp [canon_inj hbc this]
      refine Ev.step (fun k => gamehalllaw2_NatCounts.j0.eq_2 _ _ _ _ _ _ _ k) ?_
      refine Ev.no (by simp) ?_
      have j1t : (a1 < 0 ∨ a1 > n) → Ev (fun k => gamehalllaw2_NatCounts.j1 k (n : Int) a1 z.1 z.2 b g true) true := by
        intro h
        obtain ⟨h1, h2⟩ := hout h
        refine Ev.step (fun k => gamehalllaw2_NatCounts.j1.eq_2 _ _ _ _ _ _ _ k) ?_
        exact Ev.yes rfl (Ev.yes h1 (Ev.yes (by rw [h2]; exact nil_list) j2))
      refine Ev.ite (fun h => j1t (.inl h)) (fun h => ?_)
      by_cases h2 : a1 > n
      · rw [decide_eq_true h2]; exact j1t (.inr h2)
      · rw [decide_eq_false h2]
        refine Ev.step (fun k => gamehalllaw2_NatCounts.j1.eq_2 _ _ _ _ _ _ _ k) ?_
        exact Ev.no (by simp) j2
    refine Ev.bind1 fact_ev (Ev.yes rfl ?_)
    by_cases hk : a1 < 0 ∨ a1 > n
    · exact go ⟨#[]⟩ 4 (binomial_bad n a1 (by omega)) (fun _ => ⟨rfl, rfl⟩) (fun _ h1 h2 => by omega)
    · obtain ⟨kk, rfl⟩ : ∃ kk : Nat, a1 = (kk : Int) := ⟨a1.toNat, by omega⟩
      obtain ⟨t, t1, t2⟩ := binomial_ev n kk (by omega) (by omega)
      refine go (toldOf t).1 (toldOf t).2 t1 (fun h => absurd h hk) (fun h26 _ _ => ?_)
      have hs := canon_size t2 20 (by omega) (bin_small n h26 _ (by omega))
      rw [told_short (by omega)]
      refine ⟨rfl, ?_⟩
      rw [← bin_pas n h26 kk (by omega)]
      exact t2
end Go.Proofs.YtolikobhjmnedaaDoor.Pure
