/- Package nat's Div and Gcd over limbs in the base 10^9: quotient, remainder, greatest common divisor. -/
import Derived.Test.YtolikobhjmnedaaDoorNatDiv
set_option linter.unusedSimpArgs false
set_option linter.unusedVariables false
namespace Go.Proofs.YtolikobhjmnedaaDoor.Pure
open Go.RowKit Go.Proofs.YtolikobhjmnedaaDoor.GN Go.Proofs.YtolikobhjmnedaaDoorW.PrintWords Go.Proofs.YtolikobhjmnedaaDoorW.PrintLast Go.Proofs.YtolikobhjmnedaaDoor.Aid Go.Proofs.YtolikobhjmnedaaDoor.NatVal

theorem limbs_nonneg {l : List Int} {v : Int} (h : Limbs l v) : 0 ≤ v := by
  have := val_nonneg (b := BB) (by decide) h.2.1
  rw [h.1] at this; exact this
theorem limbs_pos {l : List Int} {v : Int} (h : Limbs l v) : 0 < l.length ↔ 0 < v := by
  constructor
  · intro hl
    have hne : l ≠ [] := fun z => by rw [z] at hl; simp at hl
    have h1 := val_ge (b := BB) (by decide) h.2.1 h.2.2 hne
    have h2 : 0 < BB ^ (l.length - 1) := Int.pow_pos (by decide)
    rw [h.1] at h1
    omega
  · intro hv
    by_cases hl : 0 < l.length
    · exact hl
    · have : l = [] := List.eq_nil_of_length_eq_zero (by omega)
      have h1 := h.1
      rw [this] at h1
      simp only [val] at h1
      omega
theorem limbs_len {l r : List Int} {u v : Int} (h : Limbs l u) (h' : Limbs r v) (hle : u ≤ v) : l.length ≤ r.length :=
  len_le_of_val (b := BB) (by decide) h.2.1 h.2.2 h'.2.1 (by rw [h.1, h'.1]; exact hle)
/-- the factor that makes the first digit great -/
theorem factor {top d : Int} (h0 : 1 ≤ top) (h1 : top < 1000000000) (hd : d = 1000000000 / (top + 1)) : 1 ≤ d ∧ d ≤ 500000000 ∧ (top + 1) * d ≤ 1000000000 ∧ 500000000 ≤ top * d := by
  have hm := Int.mul_ediv_add_emod 1000000000 (top + 1)
  have hr0 := Int.emod_nonneg 1000000000 (show top + 1 ≠ 0 by omega)
  have hr1 := Int.emod_lt_of_pos 1000000000 (show 0 < top + 1 by omega)
  have hd1 : 1 ≤ d := by
    have : 1 ≤ 1000000000 / (top + 1) := (Int.le_ediv_iff_mul_le (by omega)).2 (by omega)
    omega
  rw [← hd] at hm
  generalize (1000000000 : Int) % (top + 1) = r at *
  clear hd
  have e : (top + 1) * d = top * d + d := by rw [Int.add_mul, Int.one_mul]
  have h2 : 0 ≤ (top - 1) * (d - 1) := Int.mul_nonneg (by omega) (by omega)
  have e2 : (top - 1) * (d - 1) = top * d - top - d + 1 := by
    rw [Int.sub_mul, Int.mul_sub, Int.one_mul, Int.mul_one]; omega
  have h3 : 1 * d ≤ top * d := Int.mul_le_mul_of_nonneg_right h0 (by omega)
  rw [e2] at h2
  rw [e] at hm ⊢
  rw [Int.one_mul] at h3
  omega
theorem top_split {l : List Int} (n : Nat) (hl : l.length = n + 1) : val BB l = val BB (l.take n) + BB ^ n * rd l (n : Int) := by
  have h := val_split l n (by omega)
  rw [val_drop, List.drop_of_length_le (by omega)] at h
  simpa [val] using h
theorem snoc_zero {t : List Int} (ho : ok BB t) : ok BB (t ++ [0]) := ok_append.2 ⟨ho, ok_cons.2 ⟨by decide, ok_nil _⟩⟩
theorem rep_ok (n : Nat) : ok BB (List.replicate n (0 : Int)) := fun x hx => by rw [List.eq_of_mem_replicate hx]; decide
theorem wsub (L n m : Nat) (h : L = n + m) (hL : L ≤ 1000000) : wrap64 ((L : Int) - (n : Int)) = (m : Int) ∧ wrap64 ((m : Int) - 1) = (m : Int) - 1 := by
  refine ⟨?_, ?_⟩ <;> (rw [w64] <;> omega)
theorem div_ev {a b : List Int} {u v : Int} (ha : Limbs a u) (hb : Limbs b v) (hv : 0 < v) (hn : a.length + b.length ≤ 400000) :
    ∃ q r, Ev (fun k => nat_N_Div.f k a b) (q, r) ∧ Limbs q (u / v) ∧ Limbs r (u % v) ∧ q.length ≤ a.length + 2 ∧ r.length ≤ a.length + 2 := by
  have hu := limbs_nonneg ha
  have hbl := (limbs_pos hb).2 hv
  have hc := cmp_ev (l := a) (r := b) (by omega) ha.2.1 hb.2.1 ha.2.2 hb.2.2
  rw [ha.1, hb.1] at hc
  by_cases hlt : u < v
  · refine ⟨[], a, ?_, ⟨by rw [Int.ediv_eq_zero_of_lt hu hlt]; rfl, ok_nil _, noLead_nil⟩, by rw [Int.emod_eq_of_lt hu hlt]; exact ha, by simp, by omega⟩
    unfold nat_N_Div.f
    exact Ev.bind1 hc (Ev.yes (by unfold cmpI; rw [if_pos hlt]; decide) (Ev.now _))
  · have hnc : ¬ cmpI u v < 0 := by unfold cmpI; rw [if_neg hlt]; split <;> omega
    by_cases h1 : b.length = 1
    · obtain ⟨x, hx⟩ : ∃ x, b = [x] := List.length_eq_one_iff.1 h1
      subst hx
      have hx1 := hb.1
      simp only [val, Int.mul_zero, Int.add_zero] at hx1
      subst hx1
      have hxr := ok_cons.1 hb.2.1
      obtain ⟨q, r, q1, q2, q3, q4, q5⟩ := short_ev ha x hv hxr.1.2 (by omega)
      refine ⟨q, r, ?_, q2, q3, by omega, by omega⟩
      unfold nat_N_Div.f
      refine Ev.bind1 hc (Ev.no hnc (Ev.yes (by simp) (Ev.yes (by simp) ?_)))
      rw [show rd [x] 0 = x from rfl]
      exact Ev.bind1 q1 (Ev.now _)
    · obtain ⟨n2, hn2⟩ : ∃ n2, b.length = n2 + 2 := ⟨b.length - 2, by omega⟩
      have hB : BB = 1000000000 := rfl
      have htr := ok_rd hb.2.1 (n2 + 1) (by omega)
      rw [hB] at htr
      have hbne : b ≠ [] := fun z => by rw [z] at hn2; simp at hn2
      have htop : rd b ((n2 + 1 : Nat) : Int) ≠ 0 := by
        have := hb.2.2 hbne
        rw [List.getLast_eq_getElem] at this
        rw [rd_eq b (n2 + 1) (by omega)]
        intro h
        apply this
        rw [← h]
        congr 1
        omega
      have hvs := top_split (l := b) (n2 + 1) (by omega)
      have htk := take_range hb.2.1 (n2 + 1)
      rw [hb.1] at hvs
      -- the factor
      obtain ⟨d, hd⟩ : ∃ d, d = 1000000000 / (rd b ((n2 + 1 : Nat) : Int) + 1) := ⟨_, rfl⟩
      obtain ⟨d1, d2, d3, d4⟩ := factor (by omega) htr.2 hd
      have ed : IntKind.u64.wrap (Int.tdiv (1000000000 : Int) (IntKind.u64.wrap ((IntKind.u64.wrap (rd b (wrap64 ((b.length : Int) - 1)))) + 1))) % 4294967296 = d ∧ ¬ (IntKind.u64.wrap ((IntKind.u64.wrap (rd b (wrap64 ((b.length : Int) - 1)))) + 1)) = 0 ∧ 0 ≤ (wrap64 ((b.length : Int) - 1)) ∧ (wrap64 ((b.length : Int) - 1)) < (b.length : Int) := by
        rw [(w3 0 n2 b.length hn2 (by omega)).2.2, u64 (i := rd b ((n2 + 1 : Nat) : Int)) (by omega) (by omega), u64 (i := rd b ((n2 + 1 : Nat) : Int) + 1) (by omega) (by omega), Int.tdiv_eq_ediv_of_nonneg (by omega), ← hd, u64 (by omega) (by omega)]
        refine ⟨by omega, by omega, by omega, by omega⟩
      have hdl : Limbs [d] d := ⟨by simp [val], ok_cons.2 ⟨⟨by omega, by show _ < (1000000000 : Int); omega⟩, ok_nil _⟩, fun _ => by show d ≠ 0; omega⟩
      obtain ⟨t, t1, t2, t3⟩ := mul_ev ha hdl (by simp; omega)
      obtain ⟨w, w1, w2, w3'⟩ := mul_ev hb hdl (by simp; omega)
      simp only [List.length_singleton] at t3 w3'
      have hPP : 0 < BB ^ (n2 + 1) := Int.pow_pos (by decide)
      have hPs : BB ^ (n2 + 2) = BB ^ (n2 + 1) * 1000000000 := Int.pow_succ _ _
      have hvle : v * 1 ≤ v * d := Int.mul_le_mul_of_nonneg_left d1 (by omega)
      have hule : u * 1 ≤ u * d := Int.mul_le_mul_of_nonneg_left d1 hu
      rw [Int.mul_one] at hvle hule
      -- the length of the divisor stays
      have hup : v * d < BB ^ (n2 + 2) := by
        have h2 : (v + 1) * d ≤ (BB ^ (n2 + 1) * (rd b ((n2 + 1 : Nat) : Int) + 1)) * d := Int.mul_le_mul_of_nonneg_right (by rw [Int.mul_add, Int.mul_one]; omega) (by omega)
        have h3 : BB ^ (n2 + 1) * ((rd b ((n2 + 1 : Nat) : Int) + 1) * d) ≤ BB ^ (n2 + 1) * 1000000000 := Int.mul_le_mul_of_nonneg_left d3 (Int.le_of_lt hPP)
        rw [Int.mul_assoc] at h2
        have h4 : (v + 1) * d = v * d + d := by rw [Int.add_mul, Int.one_mul]
        omega
      have hvge : BB ^ (n2 + 1) ≤ v := by
        have h2 : BB ^ (n2 + 1) * 1 ≤ BB ^ (n2 + 1) * rd b ((n2 + 1 : Nat) : Int) := Int.mul_le_mul_of_nonneg_left (by omega) (Int.le_of_lt hPP)
        omega
      have hwl : w.length = n2 + 2 := by
        have h2 : w.length ≤ n2 + 2 := by
          by_cases h : w.length ≤ n2 + 2
          · exact h
          · have hwne : w ≠ [] := fun z => by rw [z] at h; simp at h
            have h3 := val_ge (b := BB) (by decide) w2.2.1 w2.2.2 hwne
            have h4 : BB ^ (n2 + 2) ≤ BB ^ (w.length - 1) := pow_mono (by decide) (by omega)
            rw [w2.1] at h3
            omega
        have h5 : n2 + 2 ≤ w.length := by
          by_cases h : n2 + 2 ≤ w.length
          · exact h
          · have h3 := val_lt (b := BB) (by decide) w2.2.1
            have h4 : BB ^ w.length ≤ BB ^ (n2 + 1) := pow_mono (by decide) (by omega)
            rw [w2.1] at h3
            omega
        omega
      have hwtop : 500000000 ≤ rd w ((n2 + 1 : Nat) : Int) := by
        have h2 := top_split (l := w) (n2 + 1) (by omega)
        have h3 := take_range w2.2.1 (n2 + 1)
        rw [w2.1] at h2
        by_cases h : 500000000 ≤ rd w ((n2 + 1 : Nat) : Int)
        · exact h
        · have h4 : BB ^ (n2 + 1) * (rd w ((n2 + 1 : Nat) : Int) + 1) ≤ BB ^ (n2 + 1) * (rd b ((n2 + 1 : Nat) : Int) * d) := Int.mul_le_mul_of_nonneg_left (by omega) (Int.le_of_lt hPP)
          have h5 : (BB ^ (n2 + 1) * rd b ((n2 + 1 : Nat) : Int)) * d ≤ v * d := Int.mul_le_mul_of_nonneg_right (by omega) (by omega)
          rw [Int.mul_assoc] at h5
          rw [Int.mul_add, Int.mul_one] at h4
          omega
      have htl : a.length ≤ t.length := limbs_len ha t2 hule
      have hal := limbs_len hb ha (by omega)
      -- the division
      obtain ⟨m, hm⟩ : ∃ m, t.length + 1 = n2 + 2 + m := ⟨t.length + 1 - (n2 + 2), by omega⟩
      have hult : u < v * BB ^ m := by
        have h2 := val_lt (b := BB) (by decide) ha.2.1
        rw [ha.1] at h2
        have h3 : BB ^ a.length ≤ BB ^ (n2 + 1 + m) := pow_mono (by decide) (by omega)
        rw [Int.pow_add] at h3
        have h4 : BB ^ (n2 + 1) * BB ^ m ≤ v * BB ^ m := Int.mul_le_mul_of_nonneg_right hvge (Int.le_of_lt (Int.pow_pos (by decide)))
        omega
      obtain ⟨q, r, q1, q2, q3, q4, q5⟩ := div_l1 d w n2 (u * d) (t.length + 1) (by omega) (by omega) w2.2.1 hwl hwtop (by omega) m (t ++ [0]) (List.replicate m 0) (by simp) (by omega) (by rw [List.length_replicate]; omega) (snoc_zero t2.2.1) (rep_ok m) (by
          rw [val_snoc, Int.mul_zero, Int.add_zero, t2.1, w2.1, Int.mul_comm v d, Int.mul_assoc, Int.mul_comm u d]
          exact Int.mul_lt_mul_of_pos_left hult (by omega)) (by
          rw [List.drop_of_length_le (by simp), val_snoc, Int.mul_zero, Int.add_zero, t2.1]; simp [val])
      rw [w2.1] at q2 q3
      rw [Int.mul_ediv_mul_of_pos_left _ _ (by omega)] at q2
      rw [Int.mul_comm u d, Int.mul_comm v d, Int.mul_emod_mul_of_pos _ _ (by omega), Int.mul_ediv_cancel_left _ (by omega)] at q3
      refine ⟨q, r, ?_, q2, q3, by omega, by omega⟩
      obtain ⟨s1, s2⟩ := wsub (t.length + 1) (n2 + 2) m hm (by omega)
      have l0 : Ev (fun k => nat_N_Div.l0 k a d (t ++ [0]) w) (q, r) := by
        refine Ev.step (fun k => nat_N_Div.l0.eq_2 _ _ _ _ k) ?_
        have e1 : ((t ++ [0]).length : Int) = ((t.length + 1 : Nat) : Int) := by simp
        rw [hwl] at q1 ⊢
        rw [e1, s1, Int.toNat_natCast, s2]
        exact Ev.no (by omega) (Ev.yes (by omega) (Ev.yes (by omega) q1))
      unfold nat_N_Div.f
      rw [ed.1]
      refine Ev.bind1 hc (Ev.no hnc (Ev.no (by omega) (Ev.yes ed.2.2.1 (Ev.yes ed.2.2.2 (Ev.no ed.2.1 (Ev.bind1 t1 (Ev.yes (by omega) (Ev.bind1 w1 l0))))))))
theorem gcd_l0 (n : Nat) : ∀ (a b : List Int) (m : Nat), Limbs a (m : Int) → Limbs b (n : Int) → a.length ≤ 100000 → b.length ≤ 100000 →
    ∃ r, Ev (fun k => nat_N_Gcd.l0 k a b) r ∧ Limbs r ((Nat.gcd m n : Nat) : Int) := by
  induction n using Nat.strongRecOn with
  | _ n ih =>
    intro a b m ha hb hal hbl
    have hp := limbs_pos hb
    by_cases h0 : n = 0
    · subst h0
      refine ⟨a, ?_, by rw [Nat.gcd_zero_right]; exact ha⟩
      refine Ev.step (fun k => nat_N_Gcd.l0.eq_2 _ _ k) ?_
      exact Ev.no (by omega) (Ev.now _)
    · obtain ⟨q, r, q1, q2, q3, q4, q5⟩ := div_ev ha hb (by omega) (by omega)
      rw [← Int.natCast_emod] at q3
      have hlt := Nat.mod_lt m (show 0 < n by omega)
      have hrl := limbs_len q3 hb (by omega)
      obtain ⟨g, g1, g2⟩ := ih (m % n) hlt b r n hb q3 hbl (by omega)
      refine ⟨g, ?_, by rw [Nat.gcd_comm, Nat.gcd_rec, Nat.gcd_comm]; exact g2⟩
      refine Ev.step (fun k => nat_N_Gcd.l0.eq_2 _ _ k) ?_
      exact Ev.yes (by omega) (Ev.bind1 q1 g1)
theorem gcd_ev {a b : List Int} {m n : Nat} (ha : Limbs a (m : Int)) (hb : Limbs b (n : Int)) (hal : a.length ≤ 100000) (hbl : b.length ≤ 100000) :
    ∃ r, Ev (fun k => nat_N_Gcd.f k a b) r ∧ Limbs r ((Nat.gcd m n : Nat) : Int) := by
  unfold nat_N_Gcd.f
  exact gcd_l0 n a b m ha hb hal hbl
end Go.Proofs.YtolikobhjmnedaaDoor.Pure
