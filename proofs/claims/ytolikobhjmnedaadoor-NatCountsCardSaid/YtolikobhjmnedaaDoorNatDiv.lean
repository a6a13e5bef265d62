/- Package nat's Div over limbs in the base 10^9. -/
import Derived.Test.YtolikobhjmnedaaDoorNatShort
set_option linter.unusedSimpArgs false
set_option linter.unusedVariables false
namespace Go.Proofs.YtolikobhjmnedaaDoor.Pure
open Go.RowKit Go.Proofs.YtolikobhjmnedaaDoor.GN Go.Proofs.YtolikobhjmnedaaDoorW.PrintWords Go.Proofs.YtolikobhjmnedaaDoorW.PrintLast Go.Proofs.YtolikobhjmnedaaDoor.Aid Go.Proofs.YtolikobhjmnedaaDoor.NatVal

theorem val_drop (l : List Int) (i : Nat) : val BB (l.drop i) = rd l (i : Int) + BB * val BB (l.drop (i + 1)) := by
  by_cases hlt : i < l.length
  · rw [drop_rd l i hlt]; rfl
  · rw [List.drop_of_length_le (by omega), List.drop_of_length_le (by omega), rd_out l i (by omega)]; rfl
theorem val_split (l : List Int) (j : Nat) (h : j ≤ l.length) : val BB l = val BB (l.take j) + BB ^ j * val BB (l.drop j) := by
  have h1 := val_append (b := BB) (l.take j) (l.drop j)
  rw [List.take_append_drop, List.length_take, Nat.min_eq_left h] at h1
  exact h1
theorem take_range {l : List Int} (ho : ok BB l) (j : Nat) : 0 ≤ val BB (l.take j) ∧ val BB (l.take j) < BB ^ j := by
  refine ⟨val_nonneg (by decide) (ok_take ho j), ?_⟩
  have h4 := val_lt (b := BB) (by decide) (ok_take ho j)
  have h5 : BB ^ (l.take j).length ≤ BB ^ j := pow_mono (by decide) (by simp; omega)
  omega

/-! ### the estimate of a digit of the quotient -/
theorem est_up {U Vv K P T V2 low vl x : Int} (hK : 0 < K) (hP : 0 < P) (hU : U = K * P * T + low) (hl1 : low < K * P) (hV : Vv = P * V2 + vl) (hv0 : 0 ≤ vl) (hx : 0 ≤ x) (h : T < x * V2) : U < x * Vv * K := by
  have h1 : K * P * (T + 1) ≤ K * P * (x * V2) := Int.mul_le_mul_of_nonneg_left (by omega) (Int.le_of_lt (Int.mul_pos hK hP))
  have h2 : 0 ≤ x * vl * K := Int.mul_nonneg (Int.mul_nonneg hx hv0) (Int.le_of_lt hK)
  have h3 : x * Vv * K = K * P * (x * V2) + x * vl * K := by rw [hV]; exact NatAlg.est1 _ _ _ _ _
  have h4 : K * P * (T + 1) = K * P * T + K * P := by rw [Int.mul_add, Int.mul_one]
  omega
theorem est_low {U Vv K P T V2 low vl x B : Int} (hK : 0 < K) (hP : 0 < P) (hU : U = K * P * T + low) (hl0 : 0 ≤ low) (hV : Vv = P * V2 + vl) (hv0 : 0 ≤ vl) (hv1 : vl < P) (hx : 0 ≤ x) (hxB : x ≤ B) (hB : B ≤ V2) (h : x * V2 ≤ T) : (x - 1) * Vv * K ≤ U := by
  have h1 : K * P * (x * V2) ≤ K * P * T := Int.mul_le_mul_of_nonneg_left h (Int.le_of_lt (Int.mul_pos hK hP))
  have h2 : x * vl ≤ V2 * P := Int.mul_le_mul (by omega) (by omega) hv0 (by omega)
  have h3 : x * Vv * K = K * P * (x * V2) + (x * vl) * K := by rw [hV]; exact NatAlg.est1 _ _ _ _ _
  have h4 : (x * vl) * K ≤ (V2 * P) * K := Int.mul_le_mul_of_nonneg_right h2 (Int.le_of_lt hK)
  have h5 : 0 ≤ vl * K := Int.mul_nonneg hv0 (Int.le_of_lt hK)
  have h6 : (x - 1) * Vv * K = x * Vv * K - ((V2 * P) * K + vl * K) := by rw [hV]; exact NatAlg.est2 _ _ _ _ _
  omega
/-- what the correction loop leaves: the digit or one more -/
def Good (U Vv K x : Int) : Prop := 0 ≤ x ∧ x ≤ 1000000000 ∧ U < (x + 1) * Vv * K ∧ (x - 1) * Vv * K ≤ U

theorem w3 (k n2 L : Nat) (h : L = n2 + 2) (hb : k + n2 ≤ 1000000) : wrap64 ((k : Int) + (L : Int)) = ((k + n2 + 2 : Nat) : Int) ∧ wrap64 (((k + n2 + 2 : Nat) : Int) - 1) = ((k + n2 + 1 : Nat) : Int) ∧ wrap64 ((L : Int) - 1) = ((n2 + 1 : Nat) : Int) := by
  refine ⟨?_, ?_, ?_⟩ <;> (rw [w64] <;> omega)
theorem w3b (k n2 L : Nat) (h : L = n2 + 2) (hb : k + n2 ≤ 1000000) : wrap64 ((L : Int) - 2) = (n2 : Int) ∧ wrap64 (wrap64 ((k : Int) + (L : Int)) - 2) = ((k + n2 : Nat) : Int) := by
  refine ⟨?_, ?_⟩
  · rw [w64] <;> omega
  · rw [(w3 k n2 L h hb).1, w64] <;> omega
section
variable (by_ : Int) (u v out : List Int) (kk n2 : Nat) (K P low vl : Int)
theorem est_l2 (hu : ok BB u) (hv : ok BB v) (hn : v.length = n2 + 2) (hL : kk + n2 + 2 < u.length) (hL2 : u.length ≤ 1000000) (hK : 0 < K) (hP : 0 < P)
    (hU : val BB u = K * P * ((rd u ((kk + n2 + 2 : Nat) : Int) * BB + rd u ((kk + n2 + 1 : Nat) : Int)) * BB + rd u ((kk + n2 : Nat) : Int)) + low) (hl0 : 0 ≤ low) (hl1 : low < K * P)
    (hV : val BB v = P * (rd v ((n2 + 1 : Nat) : Int) * BB + rd v (n2 : Int)) + vl) (hv0 : 0 ≤ vl) (hv1 : vl < P) (hn1 : 1 ≤ rd v ((n2 + 1 : Nat) : Int))
    (hlt : val BB u < 1000000000 * val BB v * K) (m : Nat) :
    ∀ qh rh : Int, qh * rd v ((n2 + 1 : Nat) : Int) + rh = rd u ((kk + n2 + 2 : Nat) : Int) * BB + rd u ((kk + n2 + 1 : Nat) : Int) → val BB u < (qh + 1) * val BB v * K → 0 ≤ qh → qh ≤ 1000000001 → 0 ≤ rh → rh < 1000000000 → (1000000000 - rh).toNat ≤ m →
      ∃ x, Good (val BB u) (val BB v) K x ∧ ∀ res, Ev (fun k => nat_N_Div.j4 k by_ u v (v.length : Int) out (kk : Int) x) res → Ev (fun k => nat_N_Div.l2 k by_ u v (v.length : Int) out (kk : Int) qh rh) res := by
  have hB : BB = 1000000000 := rfl
  have hd1 := ok_rd hv (n2 + 1) (by omega)
  have hd2 := ok_rd hv n2 (by omega)
  have hu3 := ok_rd hu (kk + n2) (by omega)
  have hu2 := ok_rd hu (kk + n2 + 1) (by omega)
  rw [hB] at hd1 hd2 hu3 hu2
  have g9 : kk + n2 ≤ 1000000 := by omega
  induction m with
  | zero => intro qh rh h1 h2 h3 h4 h5 h6 h7; omega
  | succ m ih =>
    intro qh rh h1 h2 h3 h4 h5 h6 h7
    have hqv0 : 0 ≤ qh * rd v (n2 : Int) := Int.mul_nonneg h3 hd2.1
    have hqv1 : qh * rd v (n2 : Int) ≤ 1000000001 * 999999999 := Int.mul_le_mul h4 (by omega) hd2.1 (by omega)
    -- a true test: one less
    have less : val BB u < qh * val BB v * K → 1 ≤ qh → ∃ x, Good (val BB u) (val BB v) K x ∧ ∀ res, Ev (fun k => nat_N_Div.j4 k by_ u v (v.length : Int) out (kk : Int) x) res → Ev (fun k => nat_N_Div.j3 k by_ u v (v.length : Int) out (kk : Int) qh rh true) res := by
      intro hlt' hq1
      by_cases hr : rh + rd v ((n2 + 1 : Nat) : Int) ≥ 1000000000
      · refine ⟨qh - 1, ⟨by omega, by omega, by rw [Int.sub_add_cancel]; exact hlt', ?_⟩, ?_⟩
        · refine est_low (B := 1000000000) hK hP hU hl0 hV hv0 hv1 (by omega) (by omega) ?_ ?_
          · rw [hB]; omega
          · have h8 : (qh - 1) * rd v (n2 : Int) ≤ 1000000000 * 999999999 := Int.mul_le_mul (by omega) (by omega) hd2.1 (by omega)
            have h9 : (qh - 1) * (rd v ((n2 + 1 : Nat) : Int) * BB + rd v (n2 : Int)) = (qh * rd v ((n2 + 1 : Nat) : Int) - rd v ((n2 + 1 : Nat) : Int)) * BB + (qh - 1) * rd v (n2 : Int) := NatAlg.a1 _ _ _ _
            rw [h9, hB] 
            rw [hB] at h1
            omega
        · intro res hres
          refine Ev.step (fun k => nat_N_Div.j3.eq_2 _ _ _ _ _ _ _ _ _ k) ?_
          rw [(w3 kk n2 v.length hn g9).2.2, u64 (i := rd v ((n2 + 1 : Nat) : Int)) (by omega) (by omega), u64 (i := rh + rd v ((n2 + 1 : Nat) : Int)) (by omega) (by omega), u64 (i := qh - 1) (by omega) (by omega)]
          exact Ev.yes rfl (Ev.yes (by omega) (Ev.yes (by omega) (Ev.yes hr hres)))
      · obtain ⟨x, gx, hx⟩ := ih (qh - 1) (rh + rd v ((n2 + 1 : Nat) : Int)) (by rw [← h1]; exact NatAlg.a2 _ _ _) (by rw [Int.sub_add_cancel]; exact hlt') (by omega) (by omega) (by omega) (by omega) (by omega)
        refine ⟨x, gx, fun res hres => ?_⟩
        refine Ev.step (fun k => nat_N_Div.j3.eq_2 _ _ _ _ _ _ _ _ _ k) ?_
        rw [(w3 kk n2 v.length hn g9).2.2, u64 (i := rd v ((n2 + 1 : Nat) : Int)) (by omega) (by omega), u64 (i := rh + rd v ((n2 + 1 : Nat) : Int)) (by omega) (by omega), u64 (i := qh - 1) (by omega) (by omega)]
        exact Ev.yes rfl (Ev.yes (by omega) (Ev.yes (by omega) (Ev.no hr (hx res hres))))
    by_cases hq : qh ≥ 1000000000
    · have hVK : 0 ≤ val BB v * K := Int.mul_nonneg (val_nonneg (by decide) hv) (Int.le_of_lt hK)
      obtain ⟨x, gx, hx⟩ := less (by
        have := Int.mul_le_mul_of_nonneg_right hq hVK
        rw [← Int.mul_assoc, ← Int.mul_assoc] at this
        omega) (by omega)
      refine ⟨x, gx, fun res hres => ?_⟩
      refine Ev.step (fun k => nat_N_Div.l2.eq_2 _ _ _ _ _ _ _ _ k) ?_
      exact Ev.yes hq (hx res hres)
    · have tests : ∀ res, Ev (fun k => nat_N_Div.j3 k by_ u v (v.length : Int) out (kk : Int) qh rh (decide (qh * rd v (n2 : Int) > rh * 1000000000 + rd u ((kk + n2 : Nat) : Int)))) res → Ev (fun k => nat_N_Div.l2 k by_ u v (v.length : Int) out (kk : Int) qh rh) res := by
        intro res hres
        refine Ev.step (fun k => nat_N_Div.l2.eq_2 _ _ _ _ _ _ _ _ k) ?_
        rw [(w3b kk n2 v.length hn g9).1, (w3b kk n2 v.length hn g9).2, u64 (i := rd v (n2 : Int)) (by omega) (by omega), u64 (i := qh * rd v (n2 : Int)) (by omega) (by omega), u64 (i := rh * 1000000000) (by omega) (by omega), u64 (i := rd u ((kk + n2 : Nat) : Int)) (by omega) (by omega), u64 (i := rh * 1000000000 + rd u ((kk + n2 : Nat) : Int)) (by omega) (by omega)]
        exact Ev.no hq (Ev.yes (by omega) (Ev.yes (by omega) (Ev.yes (by omega) (Ev.yes (by omega) hres))))
      have hT : qh * (rd v ((n2 + 1 : Nat) : Int) * BB + rd v (n2 : Int)) = (qh * rd v ((n2 + 1 : Nat) : Int)) * BB + qh * rd v (n2 : Int) := NatAlg.a3 _ _ _ _
      by_cases ht : qh * rd v (n2 : Int) > rh * 1000000000 + rd u ((kk + n2 : Nat) : Int)
      · have hq1 : 1 ≤ qh := by
          by_cases h : 1 ≤ qh
          · exact h
          · rw [show qh = 0 by omega, Int.zero_mul] at ht
            omega
        obtain ⟨x, gx, hx⟩ := less (est_up hK hP hU hl1 hV hv0 h3 (by
          rw [hT]
          rw [hB] at h1 ⊢
          omega)) hq1
        refine ⟨x, gx, fun res hres => tests res ?_⟩
        rw [decide_eq_true ht]
        exact hx res hres
      · refine ⟨qh, ⟨h3, by omega, h2, ?_⟩, fun res hres => tests res ?_⟩
        · refine est_low (B := 1000000000) hK hP hU hl0 hV hv0 hv1 h3 (by omega) ?_ ?_
          · rw [hB]; omega
          · rw [hT]
            rw [hB] at h1 ⊢
            omega
        · rw [decide_eq_false ht]
          refine Ev.step (fun k => nat_N_Div.j3.eq_2 _ _ _ _ _ _ _ _ _ k) ?_
          exact Ev.no (by simp) hres
end
/-- the parts of a list of digits at three places -/
theorem three (l : List Int) (j : Nat) (h : j ≤ l.length) : val BB l = val BB (l.take j) + BB ^ j * (rd l (j : Int) + BB * (rd l ((j + 1 : Nat) : Int) + BB * (rd l ((j + 2 : Nat) : Int) + BB * val BB (l.drop (j + 3))))) := by
  rw [val_split l j h, val_drop l j, val_drop l (j + 1), val_drop l (j + 2)]
theorem div_l1 (d : Int) (v : List Int) (n2 : Nat) (A : Int) (L : Nat) (hd0 : 0 < d) (hd1 : d < 1000000000) (hv : ok BB v) (hn : v.length = n2 + 2) (htop : 500000000 ≤ rd v ((n2 + 1 : Nat) : Int)) (hL2 : L ≤ 1000000) (m : Nat) :
    ∀ (u out : List Int), u.length = L → m + n2 + 2 ≤ L → out.length = L - (n2 + 2) → ok BB u → ok BB out → val BB u < val BB v * BB ^ m → val BB (out.drop m) * BB ^ m * val BB v + val BB u = A →
      ∃ q r, Ev (fun k => nat_N_Div.l1 k d u v (v.length : Int) out ((m : Int) - 1)) (q, r) ∧ Limbs q (A / val BB v) ∧ Limbs r (A % val BB v / d) ∧ q.length ≤ L ∧ r.length ≤ L := by
  have hB : BB = 1000000000 := rfl
  have hV0 : 0 ≤ val BB v := val_nonneg (by decide) hv
  have hVs := three v n2 (by omega)
  rw [show v.drop (n2 + 3) = [] from List.drop_of_length_le (by omega), rd_out v (n2 + 2) (by omega)] at hVs
  simp only [val, Int.mul_zero, Int.add_zero] at hVs
  obtain ⟨vl0, vl1⟩ := take_range hv n2
  induction m with
  | zero =>
    intro u out hu _ ho hou hoo hlt hA
    simp only [List.drop_zero, Int.pow_zero, Int.mul_one] at hlt hA
    have hVpos : 0 < val BB v := by have := val_nonneg (b := BB) (by decide) hou; omega
    obtain ⟨a1, a2⟩ := divmod_of hVpos hA (val_nonneg (by decide) hou) hlt
    obtain ⟨t, t1, t2, t3, t4, t5⟩ := trimf_ev u (by omega) hou
    obtain ⟨q, q1, q2, q3, q4, q5⟩ := trimf_ev out (by omega) hoo
    obtain ⟨s, r, s1, s2, s3, s4, s5⟩ := short_ev (u := val BB u) ⟨t2, t3, t4⟩ d hd0 hd1 (by omega)
    refine ⟨q, s, ?_, ⟨by rw [q2, a1], q3, q4⟩, by rw [a2]; exact s2, by omega, by omega⟩
    refine Ev.step (fun k => nat_N_Div.l1.eq_2 _ _ _ _ _ _ k) ?_
    exact Ev.no (by omega) (Ev.bind1 t1 (Ev.bind1 s1 (Ev.bind1 q1 (Ev.now _))))
  | succ k ih =>
    intro u out hu hm ho hou hoo hlt hA
    -- the digits
    have hUs := three u (k + n2) (by omega)
    have hhigh : val BB u < BB ^ (k + n2 + 3) := by
      have h1 := val_lt (b := BB) (by decide) hv
      have h2 : val BB v * BB ^ (k + 1) ≤ BB ^ v.length * BB ^ (k + 1) := Int.mul_le_mul_of_nonneg_right (Int.le_of_lt h1) (Int.le_of_lt (Int.pow_pos (by decide)))
      rw [← Int.pow_add, hn, show n2 + 2 + (k + 1) = k + n2 + 3 by omega] at h2
      omega
    have hz : ∀ p : Nat, k + v.length < p → rd u (p : Int) = 0 := fun p hp => high_zero hou _ hhigh p (by omega)
    have hz3 : val BB (u.drop (k + n2 + 3)) = 0 := by
      have h1 := val_split u (k + n2 + 3) (by omega)
      have h2 := take_range hou (k + n2 + 3)
      have h3 : 0 ≤ val BB (u.drop (k + n2 + 3)) := val_nonneg (by decide) (fun x hx => hou x (List.mem_of_mem_drop hx))
      by_cases h : val BB (u.drop (k + n2 + 3)) = 0
      · exact h
      · have h4 : BB ^ (k + n2 + 3) * 1 ≤ BB ^ (k + n2 + 3) * val BB (u.drop (k + n2 + 3)) := Int.mul_le_mul_of_nonneg_left (by omega) (Int.le_of_lt (Int.pow_pos (by decide)))
        omega
    rw [hz3, Int.mul_zero, Int.add_zero] at hUs
    obtain ⟨ul0, ul1⟩ := take_range hou (k + n2)
    have hK : 0 < BB ^ k := Int.pow_pos (by decide)
    have hP : 0 < BB ^ n2 := Int.pow_pos (by decide)
    have hU : val BB u = BB ^ k * BB ^ n2 * ((rd u ((k + n2 + 2 : Nat) : Int) * BB + rd u ((k + n2 + 1 : Nat) : Int)) * BB + rd u ((k + n2 : Nat) : Int)) + val BB (u.take (k + n2)) := by
      rw [hUs, Int.pow_add]
      exact NatAlg.a4 _ _ _ _ _ _
    rw [Int.pow_add] at ul1
    have hV : val BB v = BB ^ n2 * (rd v ((n2 + 1 : Nat) : Int) * BB + rd v (n2 : Int)) + val BB (v.take n2) := by
      rw [hVs]
      exact NatAlg.a5 _ _ _ _ _
    have hlt' : val BB u < 1000000000 * val BB v * BB ^ k := by
      rw [Int.pow_succ] at hlt
      have : val BB v * (BB ^ k * BB) = 1000000000 * val BB v * BB ^ k := NatAlg.a6 _ _ _
      omega
    have hd1' := ok_rd hv (n2 + 1) (by omega)
    have hu1 := ok_rd hou (k + n2 + 2) (by omega)
    have hu2 := ok_rd hou (k + n2 + 1) (by omega)
    have hu3 := ok_rd hou (k + n2) (by omega)
    rw [hB] at hd1' hu1 hu2 hu3
    -- the first estimate
    have hvp : (0 : Int) < rd v ((n2 + 1 : Nat) : Int) := by omega
    have g0 : 0 ≤ (rd u ((k + n2 + 2 : Nat) : Int) * 1000000000 + rd u ((k + n2 + 1 : Nat) : Int)) / rd v ((n2 + 1 : Nat) : Int) := Int.ediv_nonneg (by omega) (by omega)
    have gm := Int.mul_ediv_add_emod (rd u ((k + n2 + 2 : Nat) : Int) * 1000000000 + rd u ((k + n2 + 1 : Nat) : Int)) (rd v ((n2 + 1 : Nat) : Int))
    have gr0 := Int.emod_nonneg (rd u ((k + n2 + 2 : Nat) : Int) * 1000000000 + rd u ((k + n2 + 1 : Nat) : Int)) (show rd v ((n2 + 1 : Nat) : Int) ≠ 0 by omega)
    have gr1 := Int.emod_lt_of_pos (rd u ((k + n2 + 2 : Nat) : Int) * 1000000000 + rd u ((k + n2 + 1 : Nat) : Int)) hvp
    have hnb : rd u ((k + n2 + 2 : Nat) : Int) ≤ rd v ((n2 + 1 : Nat) : Int) := by
      by_cases h : rd u ((k + n2 + 2 : Nat) : Int) ≤ rd v ((n2 + 1 : Nat) : Int)
      · exact h
      · -- then u would not be less than B * v * K
        exfalso
        have hP1 : BB ^ n2 * (rd v ((n2 + 1 : Nat) : Int) * BB + rd v (n2 : Int)) + val BB (v.take n2) < BB ^ n2 * ((rd v ((n2 + 1 : Nat) : Int) + 1) * BB) := by
          have hd2 := ok_rd hv n2 (by omega)
          have : BB ^ n2 * (rd v ((n2 + 1 : Nat) : Int) * BB + rd v (n2 : Int) + 1) ≤ BB ^ n2 * ((rd v ((n2 + 1 : Nat) : Int) + 1) * BB) := Int.mul_le_mul_of_nonneg_left (by rw [hB] at hd2 ⊢; omega) (Int.le_of_lt hP)
          rw [Int.mul_add (BB ^ n2) (rd v ((n2 + 1 : Nat) : Int) * BB + rd v (n2 : Int)) 1] at this
          omega
        rw [← hV] at hP1
        have h2 : BB ^ k * BB ^ n2 * ((rd v ((n2 + 1 : Nat) : Int) + 1) * BB * BB) ≤ BB ^ k * BB ^ n2 * ((rd u ((k + n2 + 2 : Nat) : Int) * BB + rd u ((k + n2 + 1 : Nat) : Int)) * BB + rd u ((k + n2 : Nat) : Int)) :=
          Int.mul_le_mul_of_nonneg_left (by rw [hB]; omega) (Int.le_of_lt (Int.mul_pos hK hP))
        have h3 : (BB * BB ^ k) * val BB v ≤ (BB * BB ^ k) * (BB ^ n2 * ((rd v ((n2 + 1 : Nat) : Int) + 1) * BB)) := Int.mul_le_mul_of_nonneg_left (Int.le_of_lt hP1) (Int.le_of_lt (Int.mul_pos (by decide) hK))
        have h4 : (BB * BB ^ k) * (BB ^ n2 * ((rd v ((n2 + 1 : Nat) : Int) + 1) * BB)) = BB ^ k * BB ^ n2 * ((rd v ((n2 + 1 : Nat) : Int) + 1) * BB * BB) := NatAlg.a7 _ _ _ _
        have h5 : (BB * BB ^ k) * val BB v = 1000000000 * val BB v * BB ^ k := NatAlg.a8 _ _ _
        omega
    have g1 : (rd u ((k + n2 + 2 : Nat) : Int) * 1000000000 + rd u ((k + n2 + 1 : Nat) : Int)) / rd v ((n2 + 1 : Nat) : Int) ≤ 1000000001 := by
      have : (rd u ((k + n2 + 2 : Nat) : Int) * 1000000000 + rd u ((k + n2 + 1 : Nat) : Int)) / rd v ((n2 + 1 : Nat) : Int) < 1000000002 := Int.ediv_lt_of_lt_mul hvp (by omega)
      omega
    obtain ⟨x, ⟨x0, x1, x2, x3⟩, hx⟩ := est_l2 d u v out k n2 (BB ^ k) (BB ^ n2) (val BB (u.take (k + n2))) (val BB (v.take n2)) hou hv hn (by omega) (by omega) hK hP hU ul0 ul1 hV vl0 vl1 (by omega) hlt' 1000000000
      ((rd u ((k + n2 + 2 : Nat) : Int) * 1000000000 + rd u ((k + n2 + 1 : Nat) : Int)) / rd v ((n2 + 1 : Nat) : Int)) ((rd u ((k + n2 + 2 : Nat) : Int) * 1000000000 + rd u ((k + n2 + 1 : Nat) : Int)) % rd v ((n2 + 1 : Nat) : Int))
      (by rw [Int.mul_comm] at gm; exact gm)
      (est_up hK hP hU ul1 hV vl0 (by omega) (by
        have hd2 := ok_rd hv n2 (by omega)
        rw [hB] at hd2 ⊢
        generalize (rd u ((k + n2 + 2 : Nat) : Int) * 1000000000 + rd u ((k + n2 + 1 : Nat) : Int)) / rd v ((n2 + 1 : Nat) : Int) = y at *
        have e : (y + 1) * (rd v ((n2 + 1 : Nat) : Int) * 1000000000 + rd v (n2 : Int)) = (rd v ((n2 + 1 : Nat) : Int) * y + rd v ((n2 + 1 : Nat) : Int)) * 1000000000 + (y + 1) * rd v (n2 : Int) := NatAlg.a9 _ _ _ _
        have e0 : 0 ≤ (y + 1) * rd v (n2 : Int) := Int.mul_nonneg (by omega) hd2.1
        omega)) g0 g1 gr0 (by omega) (by omega)
    -- behind the estimate
    have next : ∀ (y : Int) (u' : List Int), 0 ≤ y → u'.length = L → ok BB u' → val BB u' = val BB u - BB ^ k * (y * val BB v) → val BB u < (y + 1) * val BB v * BB ^ k →
        ∃ q r, Ev (fun kq => nat_N_Div.l1 kq d u' v (v.length : Int) (out.set k y) (wrap64 ((k : Int) - 1))) (q, r) ∧ Limbs q (A / val BB v) ∧ Limbs r (A % val BB v / d) ∧ q.length ≤ L ∧ r.length ≤ L ∧ y < 1000000000 := by
      intro y u' hy0 hlu' hou' hval hy2
      have hnn := val_nonneg (b := BB) (by decide) hou'
      have hyB : y < 1000000000 := by
        by_cases h : y < 1000000000
        · exact h
        · have h1 : 1000000000 * (val BB v * BB ^ k) ≤ y * (val BB v * BB ^ k) := Int.mul_le_mul_of_nonneg_right (by omega) (Int.mul_nonneg hV0 (Int.le_of_lt hK))
          have h2 : BB ^ k * (y * val BB v) = y * (val BB v * BB ^ k) := NatAlg.b1 _ _ _
          have h3 : 1000000000 * val BB v * BB ^ k = 1000000000 * (val BB v * BB ^ k) := by rw [Int.mul_assoc]
          omega
      rw [w64 (i := (k : Int) - 1) (by omega) (by omega)]
      obtain ⟨q, r, q1, q2, q3, q4, q5⟩ := ih u' (out.set k y) hlu' (by omega) (by simpa using ho) hou' (ok_set hoo _ hy0 hyB) (by
        have e : (y + 1) * val BB v * BB ^ k = BB ^ k * (y * val BB v) + val BB v * BB ^ k := NatAlg.b2 _ _ _
        omega) (by
        rw [set_drop _ _ _ (by omega), hval, ← hA, Int.pow_succ]
        simp only [val]
        exact NatAlg.b3 _ _ _ _ _ _)
      exact ⟨q, r, q1, q2, q3, q4, q5, hyB⟩
    have j4 : ∃ q r, Ev (fun kq => nat_N_Div.j4 kq d u v (v.length : Int) out (k : Int) x) (q, r) ∧ Limbs q (A / val BB v) ∧ Limbs r (A % val BB v / d) ∧ q.length ≤ L ∧ r.length ≤ L := by
      obtain ⟨t, u', m1, m2, m3, m4, m5⟩ := minus_ev (u := u) (v := v) k x hou hv x0 x1 (by omega) (by omega) hz
      have hb' : val BB u' < BB ^ (k + v.length + 1) := val_high m3 _ (fun p hp => m4 p (by omega))
      have hn0 := val_nonneg (b := BB) (by decide) m3
      cases t with
      | false =>
        simp only [Bool.false_eq_true, if_false, Int.add_zero] at m5
        obtain ⟨q, r, q1, q2, q3, q4, q5, q6⟩ := next x u' x0 (by omega) m3 m5 x2
        refine ⟨q, r, ?_, q2, q3, q4, q5⟩
        refine Ev.step (fun kq => nat_N_Div.j4.eq_2 _ _ _ _ _ _ _ kq) ?_
        refine Ev.bind1 m1 (Ev.no (by simp) (Ev.yes (by omega) (Ev.yes (by omega) ?_)))
        rw [Int.toNat_natCast, show x % 4294967296 = x by omega]
        exact q1
      | true =>
        simp only [if_true] at m5
        obtain ⟨u2, c, p1, p2, p3, p4, p5, p6, p7⟩ := plus_ev (u := u') (v := v) k m3 hv (by omega) (by omega) m4
        have hb2 : val BB u2 < BB ^ (k + v.length + 1) := val_high p3 _ (fun p hp => p4 p (by omega))
        have hn2 := val_nonneg (b := BB) (by decide) p3
        have e : (x - 1) * val BB v * BB ^ k = BB ^ k * (x * val BB v) - BB ^ k * val BB v := NatAlg.b4 _ _ _
        have e' : (x - 1 + 1) * val BB v * BB ^ k = BB ^ k * (x * val BB v) := NatAlg.b5 _ _ _
        have e3 : BB ^ k * ((x - 1) * val BB v) = BB ^ k * (x * val BB v) - BB ^ k * val BB v := NatAlg.b6 _ _ _
        have hc : c = 1 := by
          by_cases h : c = 1
          · exact h
          · rw [show c = 0 by omega, Int.mul_zero] at p7
            omega
        rw [hc, Int.mul_one] at p7
        have hx1 : 1 ≤ x := by
          by_cases h : 1 ≤ x
          · exact h
          · rw [show x = 0 by omega, Int.zero_mul, Int.mul_zero] at m5
            have := val_nonneg (b := BB) (by decide) hou
            omega
        obtain ⟨q, r, q1, q2, q3, q4, q5, q6⟩ := next (x - 1) u2 (by omega) (by omega) p3 (by omega) (by omega)
        refine ⟨q, r, ?_, q2, q3, q4, q5⟩
        refine Ev.step (fun kq => nat_N_Div.j4.eq_2 _ _ _ _ _ _ _ kq) ?_
        refine Ev.bind1 m1 (Ev.yes rfl (Ev.bind1 p1 (Ev.yes (by omega) (Ev.yes (by omega) ?_))))
        rw [Int.toNat_natCast, u64 (i := x - 1) (by omega) (by omega), show (x - 1) % 4294967296 = x - 1 by omega]
        exact q1
    obtain ⟨q, r, q1, q2⟩ := j4
    refine ⟨q, r, ?_, q2⟩
    refine Ev.step (fun kq => nat_N_Div.l1.eq_2 _ _ _ _ _ _ kq) ?_
    have g9 : k + n2 ≤ 1000000 := by omega
    rw [show (((k + 1 : Nat) : Int) - 1) = (k : Int) by omega, (w3 k n2 v.length hn g9).1, (w3 k n2 v.length hn g9).2.1, (w3 k n2 v.length hn g9).2.2, u64 (i := rd v ((n2 + 1 : Nat) : Int)) (by omega) (by omega), u64 (i := rd u ((k + n2 + 2 : Nat) : Int)) (by omega) (by omega), u64 (i := rd u ((k + n2 + 1 : Nat) : Int)) (by omega) (by omega),
      u64 (i := rd u ((k + n2 + 2 : Nat) : Int) * 1000000000) (by omega) (by omega), u64 (i := rd u ((k + n2 + 2 : Nat) : Int) * 1000000000 + rd u ((k + n2 + 1 : Nat) : Int)) (by omega) (by omega), Int.tmod_eq_emod_of_nonneg (by omega), Int.tdiv_eq_ediv_of_nonneg (by omega),
      u64 (i := (rd u ((k + n2 + 2 : Nat) : Int) * 1000000000 + rd u ((k + n2 + 1 : Nat) : Int)) / rd v ((n2 + 1 : Nat) : Int)) (by omega) (by omega)]
    exact Ev.yes (by omega) (Ev.yes (by omega) (Ev.yes (by omega) (Ev.yes (by omega) (Ev.yes (by omega) (Ev.yes (by omega) (Ev.yes (by omega) (Ev.no (by omega) (hx _ q1))))))))
end Go.Proofs.YtolikobhjmnedaaDoor.Pure
