/- Package nat's short, minus and plus over limbs in the base 10^9. -/
import Derived.Test.YtolikobhjmnedaaDoorNatMul
import Derived.Test.YtolikobhjmnedaaDoorNatText
import Derived.Test.YtolikobhjmnedaaDoorNatRef
set_option linter.unusedSimpArgs false
set_option linter.unusedVariables false
namespace Go.Proofs.YtolikobhjmnedaaDoor.Pure
open Go.RowKit Go.Proofs.YtolikobhjmnedaaDoor.GN Go.Proofs.YtolikobhjmnedaaDoorW.PrintWords Go.Proofs.YtolikobhjmnedaaDoorW.PrintLast Go.Proofs.YtolikobhjmnedaaDoor.Aid Go.Proofs.YtolikobhjmnedaaDoor.NatVal

theorem limbs_one {c : Int} (h0 : 0 ≤ c) (h1 : c < 1000000000) : ∃ r, Ev (fun k => nat_N_trim.f k [c]) r ∧ Limbs r c ∧ r.length ≤ 1 := by
  obtain ⟨r, q1, q2, q3, q4, q5⟩ := trimf_ev [c] (by simp) (ok_cons.2 ⟨⟨h0, h1⟩, ok_nil _⟩)
  exact ⟨r, q1, ⟨by rw [q2]; simp [val], q3, q4⟩, by simpa using q5⟩
theorem divmod_of {a d q r : Int} (hd : 0 < d) (h : q * d + r = a) (h0 : 0 ≤ r) (h1 : r < d) : a / d = q ∧ a % d = r := by
  have hq : a / d = q := by
    rw [← h, Int.add_comm, Int.add_mul_ediv_right _ _ (by omega), Int.ediv_eq_zero_of_lt h0 h1]; omega
  refine ⟨hq, ?_⟩
  have := Int.mul_ediv_add_emod a d
  rw [hq, Int.mul_comm] at this
  omega
theorem short_l0 (a : List Int) (d : Int) (hd0 : 0 < d) (hd1 : d < 1000000000) (ha : ok BB a) (hn : a.length ≤ 1000000) (n : Nat) :
    ∀ (out : List Int) (rest : Int), n ≤ a.length → out.length = a.length → ok BB out → 0 ≤ rest → rest < d → val BB (out.drop n) * d + rest = val BB (a.drop n) →
      ∃ q r, Ev (fun k => nat_N_short.l0 k a d out rest ((n : Int) - 1)) (q, r) ∧ Limbs q (val BB a / d) ∧ Limbs r (val BB a % d) ∧ q.length ≤ a.length ∧ r.length ≤ 1 := by
  induction n with
  | zero =>
    intro out rest _ ho hok h0 h1 hv
    simp only [List.drop_zero] at hv
    obtain ⟨e1, e2⟩ := divmod_of hd0 hv h0 h1
    obtain ⟨q, q1, q2, q3, q4, q5⟩ := trimf_ev out (by omega) hok
    obtain ⟨r, r1, r2, r3⟩ := limbs_one h0 (show rest < 1000000000 by omega)
    refine ⟨q, r, ?_, ⟨by rw [q2, e1], q3, q4⟩, by rw [e2]; exact r2, by omega, r3⟩
    refine Ev.step (fun k => nat_N_short.l0.eq_2 _ _ _ _ _ k) ?_
    rw [show rest % 4294967296 = rest by omega]
    exact Ev.no (by omega) (Ev.bind1 q1 (Ev.bind1 r1 (Ev.now _)))
  | succ n ih =>
    intro out rest hn' ho hok h0 h1 hv
    have hx := ok_rd ha n (by omega)
    have hB : BB = 1000000000 := rfl
    rw [hB] at hx
    have hq1 : (rest * 1000000000 + rd a (n : Int)) / d < 1000000000 := Int.ediv_lt_of_lt_mul hd0 (by omega)
    have hq0 : 0 ≤ (rest * 1000000000 + rd a (n : Int)) / d := Int.ediv_nonneg (by omega) (by omega)
    have hr0 := Int.emod_nonneg (rest * 1000000000 + rd a (n : Int)) (show d ≠ 0 by omega)
    have hr1 := Int.emod_lt_of_pos (rest * 1000000000 + rd a (n : Int)) hd0
    have hm := Int.mul_ediv_add_emod (rest * 1000000000 + rd a (n : Int)) d
    obtain ⟨q, r, q1, q2⟩ := ih (out.set n ((rest * 1000000000 + rd a (n : Int)) / d)) ((rest * 1000000000 + rd a (n : Int)) % d) (by omega) (by simpa using ho) (ok_set hok _ hq0 hq1) hr0 hr1 (by
      rw [set_drop _ _ _ (by omega), drop_rd a n (by omega)]
      simp only [val]
      rw [← hv]
      exact NatAlg.short1 _ _ _ _ _ _ hm)
    refine ⟨q, r, ?_, q2⟩
    refine Ev.step (fun k => nat_N_short.l0.eq_2 _ _ _ _ _ k) ?_
    rw [show (((n + 1 : Nat) : Int) - 1) = (n : Int) by omega, u64 (i := d) (by omega) (by omega), u64 (i := rest * 1000000000) (by omega) (by omega), u64 (i := rd a (n : Int)) (by omega) (by omega), u64 (i := rest * 1000000000 + rd a (n : Int)) (by omega) (by omega),
      Int.tmod_eq_emod_of_nonneg (by omega), Int.tdiv_eq_ediv_of_nonneg (by omega), u64 (i := (rest * 1000000000 + rd a (n : Int)) / d) (by omega) (by omega),
      show (rest * 1000000000 + rd a (n : Int)) / d % 4294967296 = (rest * 1000000000 + rd a (n : Int)) / d by omega, w64 (i := (n : Int) - 1) (by omega) (by omega)]
    refine Ev.yes (by omega) (Ev.yes (by omega) (Ev.yes (by omega) (Ev.no (by omega) (Ev.yes (by omega) ?_))))
    rw [Int.toNat_natCast]
    exact q1
theorem short_ev {a : List Int} {u : Int} (ha : Limbs a u) (d : Int) (hd0 : 0 < d) (hd1 : d < 1000000000) (hn : a.length ≤ 1000000) :
    ∃ q r, Ev (fun k => nat_N_short.f k a d) (q, r) ∧ Limbs q (u / d) ∧ Limbs r (u % d) ∧ q.length ≤ a.length ∧ r.length ≤ 1 := by
  obtain ⟨hu, oa, ta⟩ := ha
  subst hu
  obtain ⟨q, r, q1, q2⟩ := short_l0 a d hd0 hd1 oa hn a.length (List.replicate a.length 0) 0 (Nat.le_refl _) (by simp) (fun x hx => by
    rw [List.eq_of_mem_replicate hx]; decide) (by omega) hd0 (by simp [val, List.drop_of_length_le])
  refine ⟨q, r, ?_, q2⟩
  unfold nat_N_short.f
  rw [Int.toNat_natCast, w64 (by omega) (by omega)]
  exact Ev.yes (by omega) (Ev.yes (by omega) q1)

/-! ### minus and plus -/
theorem rd_drop (l : List Int) (m p : Nat) : rd (l.drop m) (p : Int) = rd l ((m + p : Nat) : Int) := by
  simp only [rd, Int.toNat_natCast, List.getD_eq_getElem?_getD, List.getElem?_drop]
theorem val_high {l : List Int} (ho : ok BB l) (m : Nat) (h : ∀ p : Nat, m ≤ p → rd l (p : Int) = 0) : val BB l < BB ^ m := by
  have h1 := val_append (b := BB) (l.take m) (l.drop m)
  rw [List.take_append_drop] at h1
  have h2 : ∀ (r : List Int), (∀ p : Nat, rd r (p : Int) = 0) → val BB r = 0 := by
    intro r
    induction r with
    | nil => intro _; rfl
    | cons x r ih =>
      intro hr
      have hx := hr 0
      have hr' : val BB r = 0 := ih (fun p => by have := hr (p + 1); simpa [rd] using this)
      simp only [val]
      rw [hr']
      simp [rd] at hx
      rw [hx]; simp
  have h3 : val BB (l.drop m) = 0 := h2 _ (fun p => by
    rw [rd_drop]
    exact h (m + p) (by omega))
  rw [h1, h3, Int.mul_zero, Int.add_zero]
  have h4 := val_lt (b := BB) (by decide) (ok_take ho m)
  have h5 : BB ^ (l.take m).length ≤ BB ^ m := pow_mono (by decide) (by simp; omega)
  omega
theorem high_zero {l : List Int} (ho : ok BB l) (m : Nat) (h : val BB l < BB ^ m) (p : Nat) (hp : m ≤ p) : rd l (p : Int) = 0 := by
  by_cases hl : p < l.length
  · have h1 := val_at (b := BB) l p hl
    have h2 := val_nonneg (b := BB) (by decide) (ok_take ho p)
    have h3 := ok_rd ho p hl
    have h4 : 0 ≤ val BB (l.drop (p + 1)) := val_nonneg (by decide) (fun x hx => ho x (List.mem_of_mem_drop hx))
    have h5 : BB ^ m ≤ BB ^ p := pow_mono (by decide) hp
    by_cases h0 : rd l (p : Int) = 0
    · exact h0
    · have h6 : BB ^ p * 1 ≤ BB ^ p * (rd l (p : Int) + BB * val BB (l.drop (p + 1))) := Int.mul_le_mul_of_nonneg_left (by
        have : 0 ≤ BB * val BB (l.drop (p + 1)) := Int.mul_nonneg (by decide) h4
        omega) (Int.le_of_lt (Int.pow_pos (by decide)))
      omega
  · exact rd_out l p (by omega)
theorem minusdig {u t s : Int} (hu0 : 0 ≤ u) (hu1 : u < 1000000000) (ht0 : 0 ≤ t) (ht1 : t < 1000000000) (hs0 : 0 ≤ s) (hs1 : s ≤ 1) :
    wrap64 (wrap64 (wrap64 u - wrap64 t) - s) = u - t - s ∧ wrap64 (u - t - s + 1000000000) = u - t - s + 1000000000 := by
  rw [w64 (i := u) (by omega) (by omega), w64 (i := t) (by omega) (by omega), w64 (i := u - t) (by omega) (by omega), w64 (i := u - t - s) (by omega) (by omega), w64 (by omega) (by omega)]
  exact ⟨rfl, rfl⟩
theorem minus_l0 (v : List Int) (kk : Nat) (q : Int) (N : Nat) (W : Int) (hv : ok BB v) (hq0 : 0 ≤ q) (hq1 : q ≤ 1000000000) (hN : kk + v.length < N) (hN2 : N ≤ 1000000) (d : Nat) :
    ∀ (i : Nat) (u : List Int) (s c : Int), i + d = v.length + 1 → u.length = N → ok BB u → (∀ p : Nat, kk + v.length < p → rd u (p : Int) = 0) → 0 ≤ s → s ≤ 1 → 0 ≤ c → c < 1000000000 → (d = 0 → c = 0) →
      val BB u - BB ^ (kk + i) * (s + c + q * val BB (v.drop i)) = W →
      ∃ (t : Bool) (u' : List Int), Ev (fun k => nat_N_minus.l0 k u v (kk : Int) q s c (i : Int)) (t, u') ∧ u'.length = N ∧ ok BB u' ∧ (∀ p : Nat, kk + v.length < p → rd u' (p : Int) = 0) ∧
        val BB u' = W + (if t = true then BB ^ (kk + v.length + 1) else 0) := by
  have hB : BB = 1000000000 := rfl
  induction d with
  | zero =>
    intro i u s c hi hu ho hz hs0 hs1 hc0 hc1 hc hw
    rw [hc rfl, show v.drop i = [] from List.drop_of_length_le (by omega)] at hw
    simp only [val, Int.mul_zero, Int.add_zero] at hw
    refine ⟨decide (s > 0), u, ?_, hu, ho, hz, ?_⟩
    · refine Ev.step (fun k => nat_N_minus.l0.eq_2 _ _ _ _ _ _ _ k) ?_
      exact Ev.no (by omega) (Ev.now _)
    · rw [show kk + v.length + 1 = kk + i by omega]
      by_cases h : s > 0
      · rw [if_pos (by simpa using h)]
        rw [show s = 1 by omega, Int.mul_one] at hw
        omega
      · rw [if_neg (by simpa using h)]
        rw [show s = 0 by omega, Int.mul_zero] at hw
        omega
  | succ d ih =>
    intro i u s c hi hu ho hz hs0 hs1 hc0 hc1 hc hw
    have hx := ok_rd ho (kk + i) (by omega)
    rw [hB] at hx
    have g1 : kk + i ≤ 10000000 := by omega
    -- the digit to be subtracted
    have go : ∀ t : Int, 0 ≤ t → t < 1000000000000000000 → (t = c + q * rd v (i : Int)) → (d = 0 → t < 1000000000) → (i < v.length → t = c + q * rd v (i : Int)) → (¬ i < v.length → t = c) →
        ∃ (t : Bool) (u' : List Int), Ev (fun k => nat_N_minus.l0 k u v (kk : Int) q s c (i : Int)) (t, u') ∧ u'.length = N ∧ ok BB u' ∧ (∀ p : Nat, kk + v.length < p → rd u' (p : Int) = 0) ∧
          val BB u' = W + (if t = true then BB ^ (kk + v.length + 1) else 0) := by
      intro t ht0 ht1 hD hd0 hin hout
      have hm := Int.mul_ediv_add_emod t 1000000000
      have hm0 := Int.emod_nonneg t (show (1000000000 : Int) ≠ 0 by decide)
      have hm1 := Int.emod_lt_of_pos t (show (0 : Int) < 1000000000 by decide)
      have hc' : t / 1000000000 < 1000000000 := by omega
      have hc0' : 0 ≤ t / 1000000000 := by omega
      have eD : val BB (v.drop i) = rd v (i : Int) + BB * val BB (v.drop (i + 1)) := by
        by_cases hlt : i < v.length
        · rw [drop_rd v i hlt]; rfl
        · rw [List.drop_of_length_le (by omega), List.drop_of_length_le (by omega), rd_out v i (by omega)]; rfl
      -- the next round
      have nx : ∀ (x s' : Int), 0 ≤ x → x < 1000000000 → 0 ≤ s' → s' ≤ 1 → x = rd u ((kk + i : Nat) : Int) - t % 1000000000 - s + 1000000000 * s' →
          ∃ (t' : Bool) (u' : List Int), Ev (fun k => nat_N_minus.l0 k (u.set (kk + i) x) v (kk : Int) q s' (t / 1000000000) (wrap64 ((i : Int) + 1))) (t', u') ∧ u'.length = N ∧ ok BB u' ∧ (∀ p : Nat, kk + v.length < p → rd u' (p : Int) = 0) ∧
            val BB u' = W + (if t' = true then BB ^ (kk + v.length + 1) else 0) := by
        intro x s' hx0 hx1 hs0' hs1' ex
        rw [w64s (by omega)]
        refine ih (i + 1) _ s' (t / 1000000000) (by omega) (by simpa using hu) (ok_set ho _ hx0 hx1) (fun p hp => by rw [rd_set_ne _ _ _ _ (by omega)]; exact hz p hp) hs0' hs1' hc0' hc' (fun h => by have := hd0 h; omega) ?_
        rw [val_set _ _ _ (by omega), ← hw, eD, ← Nat.add_assoc, Int.pow_succ]
        rw [ex]
        exact NatAlg.minus1 _ _ _ _ _ _ _ _ _ _ _ t (hD) hm
      have fin : ∃ (t' : Bool) (u' : List Int), (Ev (fun k => if (wrap64 (wrap64 (wrap64 (rd u ((kk + i : Nat) : Int)) - wrap64 (t % 1000000000)) - s)) < 0 then
            (nat_N_minus.l0 k (u.set (kk + i) ((wrap64 (wrap64 (wrap64 (wrap64 (rd u ((kk + i : Nat) : Int)) - wrap64 (t % 1000000000)) - s) + 1000000000)) % 4294967296)) v (kk : Int) q 1 (t / 1000000000) (wrap64 ((i : Int) + 1)))
            else (nat_N_minus.l0 k (u.set (kk + i) ((wrap64 (wrap64 (wrap64 (rd u ((kk + i : Nat) : Int)) - wrap64 (t % 1000000000)) - s)) % 4294967296)) v (kk : Int) q 0 (t / 1000000000) (wrap64 ((i : Int) + 1)))) (t', u')) ∧ u'.length = N ∧ ok BB u' ∧ (∀ p : Nat, kk + v.length < p → rd u' (p : Int) = 0) ∧
            val BB u' = W + (if t' = true then BB ^ (kk + v.length + 1) else 0) := by
        rw [(minusdig hx.1 hx.2 hm0 hm1 hs0 hs1).1, (minusdig hx.1 hx.2 hm0 hm1 hs0 hs1).2]
        by_cases hneg : rd u ((kk + i : Nat) : Int) - t % 1000000000 - s < 0
        · obtain ⟨t', u', q1, q2⟩ := nx ((rd u ((kk + i : Nat) : Int) - t % 1000000000 - s + 1000000000) % 4294967296) 1 (by omega) (by omega) (by omega) (by omega) (by omega)
          exact ⟨t', u', Ev.yes hneg q1, q2⟩
        · obtain ⟨t', u', q1, q2⟩ := nx ((rd u ((kk + i : Nat) : Int) - t % 1000000000 - s) % 4294967296) 0 (by omega) (by omega) (by omega) (by omega) (by omega)
          exact ⟨t', u', Ev.no hneg q1, q2⟩
      obtain ⟨t', u', q1, q2⟩ := fin
      refine ⟨t', u', ?_, q2⟩
      refine Ev.step (fun k => nat_N_minus.l0.eq_2 _ _ _ _ _ _ _ k) ?_
      rw [wadd kk i g1]
      refine Ev.yes (by omega) ?_
      by_cases hlt : i < v.length
      · have hy := ok_rd hv i hlt
        rw [hB] at hy
        have et := hin hlt
        have hqv0 : 0 ≤ q * rd v (i : Int) := Int.mul_nonneg hq0 hy.1
        refine Ev.yes (by omega) (Ev.yes (by omega) (Ev.yes (by omega) (Ev.yes (by omega) ?_)))
        rw [u64 (i := rd v (i : Int)) (by omega) (by omega), u64 (i := q * rd v (i : Int)) (by omega) (by omega), ← et, u64 (i := t) (by omega) (by omega), Int.tmod_eq_emod_of_nonneg (by omega), Int.tdiv_eq_ediv_of_nonneg (by omega), u64 (i := t / 1000000000) (by omega) (by omega), Int.toNat_natCast]
        exact q1
      · have et := hout hlt
        rw [et] at q1
        refine Ev.no (by omega) (Ev.yes (by omega) (Ev.yes (by omega) ?_))
        rw [Int.tmod_eq_emod_of_nonneg (by omega), Int.tdiv_eq_ediv_of_nonneg (by omega), u64 (i := c / 1000000000) (by omega) (by omega), Int.toNat_natCast]
        exact q1
    by_cases hlt : i < v.length
    · have hy := ok_rd hv i hlt
      rw [hB] at hy
      have hqv0 : 0 ≤ q * rd v (i : Int) := Int.mul_nonneg hq0 hy.1
      have hqv1 : q * rd v (i : Int) ≤ 1000000000 * 999999999 := Int.mul_le_mul hq1 (by omega) hy.1 (by omega)
      exact go (c + q * rd v (i : Int)) (by omega) (by omega) rfl (fun h => by omega) (fun _ => rfl) (fun h => absurd hlt h)
    · refine go c hc0 (by omega) ?_ (fun _ => hc1) (fun h => absurd h hlt) (fun _ => rfl)
      rw [rd_out v i (by omega)]; simp
theorem minus_ev {u v : List Int} (kk : Nat) (q : Int) (hu : ok BB u) (hv : ok BB v) (hq0 : 0 ≤ q) (hq1 : q ≤ 1000000000) (hN : kk + v.length < u.length) (hN2 : u.length ≤ 1000000) (hz : ∀ p : Nat, kk + v.length < p → rd u (p : Int) = 0) :
    ∃ (t : Bool) (u' : List Int), Ev (fun k => nat_N_minus.f k u v (kk : Int) q) (t, u') ∧ u'.length = u.length ∧ ok BB u' ∧ (∀ p : Nat, kk + v.length < p → rd u' (p : Int) = 0) ∧
      val BB u' = val BB u - BB ^ kk * (q * val BB v) + (if t = true then BB ^ (kk + v.length + 1) else 0) := by
  unfold nat_N_minus.f
  exact minus_l0 v kk q u.length (val BB u - BB ^ kk * (q * val BB v)) hv hq0 hq1 hN hN2 (v.length + 1) 0 u 0 0 (by omega) rfl hu hz (by omega) (by omega) (by omega) (by omega) (fun h => by omega) (by
    rw [List.drop_zero, Nat.add_zero]; simp)
theorem plus_l0 (v : List Int) (kk : Nat) (N : Nat) (W : Int) (hv : ok BB v) (hN : kk + v.length < N) (hN2 : N ≤ 1000000) (d : Nat) :
    ∀ (i : Nat) (u : List Int) (c : Int), i + d = v.length + 1 → u.length = N → ok BB u → (∀ p : Nat, kk + v.length < p → rd u (p : Int) = 0) → 0 ≤ c → c ≤ 1 →
      val BB u + BB ^ (kk + i) * (c + val BB (v.drop i)) = W →
      ∃ (u' : List Int) (c' : Int), Ev (fun k => nat_N_plus.l0 k u v (kk : Int) c (i : Int)) u' ∧ u'.length = N ∧ ok BB u' ∧ (∀ p : Nat, kk + v.length < p → rd u' (p : Int) = 0) ∧ 0 ≤ c' ∧ c' ≤ 1 ∧
        val BB u' + BB ^ (kk + v.length + 1) * c' = W := by
  have hB : BB = 1000000000 := rfl
  induction d with
  | zero =>
    intro i u c hi hu ho hz hc0 hc1 hw
    rw [show v.drop i = [] from List.drop_of_length_le (by omega)] at hw
    simp only [val, Int.add_zero] at hw
    refine ⟨u, c, ?_, hu, ho, hz, hc0, hc1, ?_⟩
    · refine Ev.step (fun k => nat_N_plus.l0.eq_2 _ _ _ _ _ k) ?_
      exact Ev.no (by omega) (Ev.now _)
    · rw [show kk + v.length + 1 = kk + i by omega]; exact hw
  | succ d ih =>
    intro i u c hi hu ho hz hc0 hc1 hw
    have hx := ok_rd ho (kk + i) (by omega)
    rw [hB] at hx
    have g1 : kk + i ≤ 10000000 := by omega
    have eD : val BB (v.drop i) = rd v (i : Int) + BB * val BB (v.drop (i + 1)) := by
      by_cases hlt : i < v.length
      · rw [drop_rd v i hlt]; rfl
      · rw [List.drop_of_length_le (by omega), List.drop_of_length_le (by omega), rd_out v i (by omega)]; rfl
    have nx : ∀ t : Int, 0 ≤ t → t < 2000000000 → t = rd u ((kk + i : Nat) : Int) + c + rd v (i : Int) →
        ∃ (u' : List Int) (c' : Int), Ev (fun k => nat_N_plus.l0 k (u.set (kk + i) (t % 4294967296 % 1000000000)) v (kk : Int) (t % 4294967296 / 1000000000) (wrap64 ((i : Int) + 1))) u' ∧ u'.length = N ∧ ok BB u' ∧ (∀ p : Nat, kk + v.length < p → rd u' (p : Int) = 0) ∧ 0 ≤ c' ∧ c' ≤ 1 ∧
          val BB u' + BB ^ (kk + v.length + 1) * c' = W := by
      intro t ht0 ht1 et
      rw [w64s (by omega), show t % 4294967296 = t by omega]
      have hm := Int.mul_ediv_add_emod t 1000000000
      refine ih (i + 1) _ _ (by omega) (by simpa using hu) (ok_set ho _ (by omega) (by show _ < (1000000000 : Int); omega)) (fun p hp => by rw [rd_set_ne _ _ _ _ (by omega)]; exact hz p hp) (by omega) (by omega) ?_
      rw [val_set _ _ _ (by omega), ← hw, eD, ← Nat.add_assoc, Int.pow_succ, hB]
      exact NatAlg.plus1 _ _ _ _ _ _ _ _ t et hm
    by_cases hlt : i < v.length
    · have hy := ok_rd hv i hlt
      rw [hB] at hy
      obtain ⟨u', c', q1, q2⟩ := nx (rd u ((kk + i : Nat) : Int) + c + rd v (i : Int)) (by omega) (by omega) rfl
      refine ⟨u', c', ?_, q2⟩
      refine Ev.step (fun k => nat_N_plus.l0.eq_2 _ _ _ _ _ k) ?_
      rw [wadd kk i g1]
      refine Ev.yes (by omega) (Ev.yes (by omega) (Ev.yes (by omega) (Ev.yes (by omega) (Ev.yes (by omega) ?_))))
      rw [Int.toNat_natCast]
      exact q1
    · obtain ⟨u', c', q1, q2⟩ := nx (rd u ((kk + i : Nat) : Int) + c) (by omega) (by omega) (by rw [rd_out v i (by omega)]; omega)
      refine ⟨u', c', ?_, q2⟩
      refine Ev.step (fun k => nat_N_plus.l0.eq_2 _ _ _ _ _ k) ?_
      rw [wadd kk i g1]
      refine Ev.yes (by omega) (Ev.yes (by omega) (Ev.yes (by omega) (Ev.no (by omega) ?_)))
      rw [Int.toNat_natCast]
      exact q1
theorem plus_ev {u v : List Int} (kk : Nat) (hu : ok BB u) (hv : ok BB v) (hN : kk + v.length < u.length) (hN2 : u.length ≤ 1000000) (hz : ∀ p : Nat, kk + v.length < p → rd u (p : Int) = 0) :
    ∃ (u' : List Int) (c' : Int), Ev (fun k => nat_N_plus.f k u v (kk : Int)) u' ∧ u'.length = u.length ∧ ok BB u' ∧ (∀ p : Nat, kk + v.length < p → rd u' (p : Int) = 0) ∧ 0 ≤ c' ∧ c' ≤ 1 ∧
      val BB u' + BB ^ (kk + v.length + 1) * c' = val BB u + BB ^ kk * val BB v := by
  unfold nat_N_plus.f
  exact plus_l0 v kk u.length (val BB u + BB ^ kk * val BB v) hv hN hN2 (v.length + 1) 0 u 0 (by omega) rfl hu hz (by omega) (by omega) (by
    rw [List.drop_zero, Nat.add_zero]; simp)
end Go.Proofs.YtolikobhjmnedaaDoor.Pure
