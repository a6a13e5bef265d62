/- Package nat's Sub over limbs in the base 10^9. -/
import Derived.Test.YtolikobhjmnedaaDoorNatAdd
set_option linter.unusedSimpArgs false
set_option linter.unusedVariables false
namespace Go.Proofs.YtolikobhjmnedaaDoor.Pure
open Go.RowKit Go.Proofs.YtolikobhjmnedaaDoor.GN Go.Proofs.YtolikobhjmnedaaDoorW.PrintWords Go.Proofs.YtolikobhjmnedaaDoorW.PrintLast Go.Proofs.YtolikobhjmnedaaDoor.Aid Go.Proofs.YtolikobhjmnedaaDoor.NatVal

theorem set_take (l : List Int) (j : Nat) (v : Int) (h : j < l.length) : (l.set j v).take (j + 1) = l.take j ++ [v] := by
  rw [take_rd _ j (by simpa using h), rd_eq _ j (by simpa using h), List.getElem_set_self, List.take_set_of_le (Nat.le_refl _)]
theorem sub_l0 (a b : List Int) (hlen : b.length ≤ a.length) (hn : a.length ≤ 1000000) (h1 : ok BB a) (h2 : ok BB b) (hge : val BB b ≤ val BB a) (d : Nat) :
    ∀ (j : Nat) (out : List Int) (c : Int), j + d = a.length → out.length = a.length → ok BB (out.take j) → 0 ≤ c → c ≤ 1 → val BB (out.take j) - BB ^ j * c = val BB (a.take j) - val BB (b.take j) →
      ∃ r, Ev (fun k => nat_N_Sub.l0 k a b out c (a.length : Int) (j : Int)) r ∧ Limbs r (val BB a - val BB b) ∧ r.length ≤ a.length := by
  induction d with
  | zero =>
    intro j out c hj ho hok hc0 hc1 hv
    rw [show a.take j = a from List.take_of_length_le (by omega), show b.take j = b from List.take_of_length_le (by omega), show out.take j = out from List.take_of_length_le (by omega)] at hv
    rw [show out.take j = out from List.take_of_length_le (by omega)] at hok
    have hlt := val_lt (b := BB) (by decide) hok
    rw [ho, show a.length = j by omega] at hlt
    have hc : c = 0 := by
      by_cases h : c = 0
      · exact h
      · rw [show c = 1 by omega, Int.mul_one] at hv
        omega
    rw [hc, Int.mul_zero, Int.sub_zero] at hv
    obtain ⟨r, q1, q2, q3, q4, q5⟩ := trimf_ev out (by omega) hok
    refine ⟨r, ?_, ⟨by rw [q2, hv], q3, q4⟩, by omega⟩
    refine Ev.step (fun k => nat_N_Sub.l0.eq_2 _ _ _ _ _ _ k) ?_
    exact Ev.no (by omega) (Ev.bind1 q1 (Ev.now _))
  | succ d ih =>
    intro j out c hj ho hok hc0 hc1 hv
    have hx := ok_rd h1 j (by omega)
    have hB : BB = 1000000000 := rfl
    rw [hB] at hx
    have ew : ∀ z : Int, -5000000000 ≤ z → z ≤ 5000000000 → wrap64 z = z := fun z _ _ => w64 (by omega) (by omega)
    have go : ∀ (v c' : Int), 0 ≤ v → v < 1000000000 → 0 ≤ c' → c' ≤ 1 → val BB (out.take j) + BB ^ j * (v - 1000000000 * c') = val BB (a.take (j + 1)) - val BB (b.take (j + 1)) →
        ∃ r, Ev (fun k => nat_N_Sub.l0 k a b (out.set j v) c' (a.length : Int) (wrap64 ((j : Int) + 1))) r ∧ Limbs r (val BB a - val BB b) ∧ r.length ≤ a.length := by
      intro v c' hv0 hv1 hc'0 hc'1 hs
      rw [w64s (by omega)]
      refine ih (j + 1) _ _ (by omega) (by simp; omega) ?_ hc'0 hc'1 ?_
      · rw [set_take _ _ _ (by omega), ok_append, ok_cons]
        exact ⟨hok, ⟨hv0, by show _ < (1000000000 : Int); omega⟩, ok_nil _⟩
      · rw [set_take _ _ _ (by omega), val_snoc, List.length_take, Nat.min_eq_left (by omega), ← hs, Int.pow_succ, Int.mul_assoc, Int.add_sub_assoc, ← Int.mul_sub]
    by_cases hb : j < b.length
    · have hy := ok_rd h2 j hb
      rw [hB] at hy
      have e1 : wrap64 (wrap64 (wrap64 (rd a (j : Int)) - c) - wrap64 (rd b (j : Int))) = rd a (j : Int) - c - rd b (j : Int) := by
        rw [ew (rd a (j : Int)) (by omega) (by omega), ew (rd b (j : Int)) (by omega) (by omega), ew (rd a (j : Int) - c) (by omega) (by omega), ew _ (by omega) (by omega)]
      have e3 : wrap64 (rd a (j : Int) - c - rd b (j : Int) + 1000000000) = rd a (j : Int) - c - rd b (j : Int) + 1000000000 := ew _ (by omega) (by omega)
      by_cases hneg : rd a (j : Int) - c - rd b (j : Int) < 0
      · obtain ⟨r, q1, q2, q3⟩ := go ((rd a (j : Int) - c - rd b (j : Int) + 1000000000) % 4294967296) 1 (by omega) (by omega) (by omega) (by omega) (by
          rw [show (rd a (j : Int) - c - rd b (j : Int) + 1000000000) % 4294967296 - 1000000000 * 1 = rd a (j : Int) - c - rd b (j : Int) by omega, val_take a j (by omega), val_take b j hb, Int.mul_sub, Int.mul_sub]; omega)
        refine ⟨r, ?_, q2, q3⟩
        refine Ev.step (fun k => nat_N_Sub.l0.eq_2 _ _ _ _ _ _ k) ?_
        rw [e1, e3]
        refine Ev.yes (by omega) (Ev.yes (by omega) (Ev.yes (by omega) (Ev.yes (by omega) (Ev.yes hneg (Ev.yes (by omega) ?_)))))
        rw [Int.toNat_natCast]
        exact q1
      · obtain ⟨r, q1, q2, q3⟩ := go ((rd a (j : Int) - c - rd b (j : Int)) % 4294967296) 0 (by omega) (by omega) (by omega) (by omega) (by
          rw [show (rd a (j : Int) - c - rd b (j : Int)) % 4294967296 - 1000000000 * 0 = rd a (j : Int) - c - rd b (j : Int) by omega, val_take a j (by omega), val_take b j hb, Int.mul_sub, Int.mul_sub]; omega)
        refine ⟨r, ?_, q2, q3⟩
        refine Ev.step (fun k => nat_N_Sub.l0.eq_2 _ _ _ _ _ _ k) ?_
        rw [e1]
        refine Ev.yes (by omega) (Ev.yes (by omega) (Ev.yes (by omega) (Ev.yes (by omega) (Ev.no hneg (Ev.yes (by omega) ?_)))))
        rw [Int.toNat_natCast]
        exact q1
    · have e1 : wrap64 (wrap64 (rd a (j : Int)) - c) = rd a (j : Int) - c := by
        rw [ew (rd a (j : Int)) (by omega) (by omega), ew _ (by omega) (by omega)]
      have e3 : wrap64 (rd a (j : Int) - c + 1000000000) = rd a (j : Int) - c + 1000000000 := ew _ (by omega) (by omega)
      by_cases hneg : rd a (j : Int) - c < 0
      · obtain ⟨r, q1, q2, q3⟩ := go ((rd a (j : Int) - c + 1000000000) % 4294967296) 1 (by omega) (by omega) (by omega) (by omega) (by
          rw [show (rd a (j : Int) - c + 1000000000) % 4294967296 - 1000000000 * 1 = rd a (j : Int) - c by omega, val_take a j (by omega), take_len_val b j (by omega), Int.mul_sub]; omega)
        refine ⟨r, ?_, q2, q3⟩
        refine Ev.step (fun k => nat_N_Sub.l0.eq_2 _ _ _ _ _ _ k) ?_
        rw [e1, e3]
        refine Ev.yes (by omega) (Ev.yes (by omega) (Ev.yes (by omega) (Ev.no (by omega) (Ev.yes hneg (Ev.yes (by omega) ?_)))))
        rw [Int.toNat_natCast]
        exact q1
      · obtain ⟨r, q1, q2, q3⟩ := go ((rd a (j : Int) - c) % 4294967296) 0 (by omega) (by omega) (by omega) (by omega) (by
          rw [show (rd a (j : Int) - c) % 4294967296 - 1000000000 * 0 = rd a (j : Int) - c by omega, val_take a j (by omega), take_len_val b j (by omega), Int.mul_sub]; omega)
        refine ⟨r, ?_, q2, q3⟩
        refine Ev.step (fun k => nat_N_Sub.l0.eq_2 _ _ _ _ _ _ k) ?_
        rw [e1]
        refine Ev.yes (by omega) (Ev.yes (by omega) (Ev.yes (by omega) (Ev.no (by omega) (Ev.no hneg (Ev.yes (by omega) ?_)))))
        rw [Int.toNat_natCast]
        exact q1
theorem sub_ev {a b : List Int} (hn : a.length ≤ 1000000) (h1 : ok BB a) (h2 : ok BB b) (t2 : noLead b) (hge : val BB b ≤ val BB a) :
    ∃ r, Ev (fun k => nat_N_Sub.f k a b) r ∧ Limbs r (val BB a - val BB b) ∧ r.length ≤ a.length := by
  have hlen := len_le_of_val (b := BB) (by decide) h2 t2 h1 hge
  obtain ⟨r, q1, q2, q3⟩ := sub_l0 a b hlen hn h1 h2 hge a.length 0 (List.replicate a.length 0) 0 (by omega) (by simp) (ok_nil _) (by omega) (by omega) (by simp [val])
  refine ⟨r, ?_, q2, q3⟩
  unfold nat_N_Sub.f
  exact Ev.yes (by omega) (Ev.yes (by omega) (by rw [Int.toNat_natCast]; exact q1))
end Go.Proofs.YtolikobhjmnedaaDoor.Pure
