/- Package nat's Cmp and Add over limbs in the base 10^9. -/
import Derived.Test.YtolikobhjmnedaaDoorNatLimb
set_option linter.unusedSimpArgs false
set_option linter.unusedVariables false
namespace Go.Proofs.YtolikobhjmnedaaDoor.Pure
open Go.RowKit Go.Proofs.YtolikobhjmnedaaDoor.GN Go.Proofs.YtolikobhjmnedaaDoorW.PrintWords Go.Proofs.YtolikobhjmnedaaDoorW.PrintLast Go.Proofs.YtolikobhjmnedaaDoor.Aid Go.Proofs.YtolikobhjmnedaaDoor.NatVal

theorem ok_take {b : Int} {l : List Int} (h : ok b l) (j : Nat) : ok b (l.take j) := fun x hx => h x (List.mem_of_mem_take hx)
theorem val_at {b : Int} (l : List Int) (j : Nat) (h : j < l.length) : val b l = val b (l.take j) + b ^ j * (rd l (j : Int) + b * val b (l.drop (j + 1))) := by
  conv => lhs; rw [← List.take_append_drop j l]
  rw [val_append, drop_rd l j h, List.length_take, Nat.min_eq_left (by omega)]
  simp only [val]
theorem val_take {b : Int} (l : List Int) (j : Nat) (h : j < l.length) : val b (l.take (j + 1)) = val b (l.take j) + b ^ j * rd l (j : Int) := by
  rw [take_rd l j h, val_snoc, List.length_take, Nat.min_eq_left (by omega)]
theorem noLead_of_ge {b : Int} (hb : 1 < b) {l : List Int} (ho : ok b l) (h : ∀ h : l ≠ [], b ^ (l.length - 1) ≤ val b l) : noLead l := by
  intro hl hz
  have e := List.dropLast_concat_getLast hl
  have h1 : val b l = val b l.dropLast + b ^ l.dropLast.length * l.getLast hl := by rw [← val_snoc, e]
  rw [hz] at h1
  have ho' : ok b l.dropLast := fun x hx => ho x ((List.dropLast_sublist l).subset hx)
  have h2 := val_lt (by omega) ho'
  have h3 := h hl
  rw [List.length_dropLast] at h2
  rw [Int.mul_zero] at h1
  omega
def cmpI (a b : Int) : Int := if a < b then -1 else if a > b then 1 else 0
theorem cmp_below {l r : List Int} (j : Nat) (hj : j < l.length) (hl : l.length = r.length) (h1 : ok BB l) (h2 : ok BB r) (hd : l.drop (j + 1) = r.drop (j + 1)) (hlt : rd l (j : Int) < rd r (j : Int)) : val BB l < val BB r := by
  rw [val_at l j hj, val_at r j (by omega), hd]
  have a1 := val_lt (b := BB) (by decide) (ok_take h1 j)
  have a2 := val_nonneg (b := BB) (by decide) (ok_take h2 j)
  rw [List.length_take, Nat.min_eq_left (by omega)] at a1
  have hp : 0 < BB ^ j := Int.pow_pos (by decide)
  have hm : BB ^ j * ((rd l (j : Int) + BB * val BB (r.drop (j + 1))) + 1) ≤ BB ^ j * (rd r (j : Int) + BB * val BB (r.drop (j + 1))) := Int.mul_le_mul_of_nonneg_left (by omega) (by omega)
  rw [Int.mul_add (BB ^ j) _ 1, Int.mul_one] at hm
  omega
theorem cmp_l0 (l r : List Int) (hl : l.length = r.length) (hn : l.length ≤ 1000000) (h1 : ok BB l) (h2 : ok BB r) (n : Nat) : n ≤ l.length → l.drop n = r.drop n →
    Ev (fun k => nat_N_Cmp.l0 k l r ((n : Int) - 1)) (cmpI (val BB l) (val BB r)) := by
  induction n with
  | zero =>
    intro _ hd
    rw [List.drop_zero, List.drop_zero] at hd
    subst hd
    refine Ev.step (fun k => nat_N_Cmp.l0.eq_2 _ _ _ k) ?_
    exact Ev.no (by omega) (Ev.now' (by simp [cmpI]))
  | succ n ih =>
    intro hn' hd
    rw [show ((n + 1 : Nat) : Int) - 1 = (n : Int) by omega]
    refine Ev.step (fun k => nat_N_Cmp.l0.eq_2 _ _ _ k) ?_
    refine Ev.yes (by omega) (Ev.yes (by omega) (Ev.yes (by omega) (Ev.yes (by omega) ?_)))
    refine Ev.ite (fun h => ?_) (fun h => Ev.ite (fun h' => ?_) (fun h' => ?_))
    · have := cmp_below n (by omega) hl h1 h2 hd h
      exact Ev.now' (by rw [cmpI, if_pos this])
    · have := cmp_below n (by omega) hl.symm h2 h1 hd.symm h'
      exact Ev.now' (by rw [cmpI, if_neg (by omega), if_pos (by omega)])
    · rw [w64 (by omega) (by omega)]
      refine ih (by omega) ?_
      rw [drop_rd l n (by omega), drop_rd r n (by omega), hd, show rd l (n : Int) = rd r (n : Int) by omega]
theorem lt_of_len {l r : List Int} (h1 : ok BB l) (h2 : ok BB r) (hr : noLead r) (h : l.length < r.length) : val BB l < val BB r := by
  have a1 := val_lt (b := BB) (by decide) h1
  have hr0 : r ≠ [] := fun z => by rw [z] at h; simp at h
  have a2 := val_ge (b := BB) (by decide) h2 hr hr0
  have a3 : BB ^ l.length ≤ BB ^ (r.length - 1) := pow_mono (by decide) (by omega)
  omega
theorem cmp_ev {l r : List Int} (hn : l.length ≤ 1000000) (h1 : ok BB l) (h2 : ok BB r) (t1 : noLead l) (t2 : noLead r) :
    Ev (fun k => nat_N_Cmp.f k l r) (cmpI (val BB l) (val BB r)) := by
  unfold nat_N_Cmp.f
  refine Ev.ite (fun h => ?_) (fun h => Ev.ite (fun h' => Ev.now' ?_) (fun h' => Ev.now' ?_))
  · rw [w64 (by omega) (by omega)]
    exact cmp_l0 l r (by omega) hn h1 h2 l.length (Nat.le_refl _) (by rw [List.drop_length, List.drop_of_length_le (by omega)])
  · rw [cmpI, if_pos (lt_of_len h1 h2 t2 (by omega))]
  · have := lt_of_len h2 h1 t1 (by omega)
    rw [cmpI, if_neg (by omega), if_pos (by omega)]

/-! ### Add -/
theorem make63 (m : Int) (h0 : 0 ≤ m) (h1 : m ≤ 1000000000) : gp_make0_63.f m = some [] := by
  unfold gp_make0_63.f
  rw [if_pos ⟨h0, by omega⟩]
theorem take_len_val {b : Int} (l : List Int) (j : Nat) (h : l.length ≤ j) : val b (l.take (j + 1)) = val b (l.take j) := by
  rw [List.take_of_length_le (by omega), List.take_of_length_le h]
theorem add_l0 (a b : List Int) (hlen : b.length ≤ a.length) (hn : a.length ≤ 1000000) (h1 : ok BB a) (h2 : ok BB b) (t1 : noLead a) (d : Nat) :
    ∀ (j : Nat) (out : List Int) (c : Int), j + d = a.length → out.length = j → ok BB out → 0 ≤ c → c ≤ 1 → val BB out + BB ^ j * c = val BB (a.take j) + val BB (b.take j) →
      ∃ r, Ev (fun k => nat_N_Add.l0 k b out c a (a.length : Int) (j : Int)) r ∧ Limbs r (val BB a + val BB b) ∧ r.length ≤ a.length + 1 := by
  induction d with
  | zero =>
    intro j out c hj ho hok hc0 hc1 hv
    rw [show a.take j = a from List.take_of_length_le (by omega), show b.take j = b from List.take_of_length_le (by omega)] at hv
    by_cases hc : c > 0
    · refine ⟨out ++ [c], ?_, ⟨by rw [val_snoc, ho]; exact hv, ?_, ?_⟩, by simp; omega⟩
      · refine Ev.step (fun k => nat_N_Add.l0.eq_2 _ _ _ _ _ _ k) ?_
        exact Ev.no (by omega) (Ev.yes hc (Ev.yes (by omega) (Ev.now _)))
      · rw [ok_append, ok_cons]
        exact ⟨hok, ⟨hc0, by show c < (1000000000 : Int); omega⟩, ok_nil _⟩
      · intro h
        rw [List.getLast_append_right (by simp)]
        simp; omega
    · have hz : c = 0 := by omega
      rw [hz, Int.mul_zero, Int.add_zero] at hv
      refine ⟨out, ?_, ⟨hv, hok, ?_⟩, by omega⟩
      · refine Ev.step (fun k => nat_N_Add.l0.eq_2 _ _ _ _ _ _ k) ?_
        exact Ev.no (by omega) (Ev.no hc (Ev.now _))
      · refine noLead_of_ge (by decide) hok (fun hne => ?_)
        have ha0 : a ≠ [] := fun z => hne (List.eq_nil_of_length_eq_zero (by rw [z] at hj; simp at hj; omega))
        have g1 := val_ge (b := BB) (by decide) h1 t1 ha0
        have g2 := val_nonneg (b := BB) (by decide) h2
        rw [ho, show j = a.length by omega]
        omega
  | succ d ih =>
    intro j out c hj ho hok hc0 hc1 hv
    have hx := ok_rd h1 j (by omega)
    have hB : BB = 1000000000 := rfl
    rw [hB] at hx
    have go : ∀ s : Int, 0 ≤ s → s < 2000000000 → s + BB ^ j * 0 = s → val BB out + BB ^ j * s = val BB (a.take (j + 1)) + val BB (b.take (j + 1)) →
        ∃ r, Ev (fun k => nat_N_Add.l0 k b (out ++ [s % 1000000000]) (s / 1000000000) a (a.length : Int) (wrap64 ((j : Int) + 1))) r ∧ Limbs r (val BB a + val BB b) ∧ r.length ≤ a.length + 1 := by
      intro s hs0 hs1 _ hs
      rw [w64s (by omega)]
      refine ih (j + 1) _ _ (by omega) (by simp; omega) ?_ (by omega) (by omega) ?_
      · rw [ok_append, ok_cons]
        exact ⟨hok, ⟨by omega, by show _ < (1000000000 : Int); omega⟩, ok_nil _⟩
      · rw [val_snoc, ho, ← hs, Int.add_assoc, Int.pow_succ, Int.mul_assoc, ← Int.mul_add]
        congr 2
        show s % 1000000000 + 1000000000 * (s / 1000000000) = s
        omega
    by_cases hb : j < b.length
    · have hy := ok_rd h2 j hb
      rw [hB] at hy
      have e : (rd a (j : Int) + c + rd b (j : Int)) % 4294967296 = rd a (j : Int) + c + rd b (j : Int) := by omega
      obtain ⟨r, q1, q2, q3⟩ := go (rd a (j : Int) + c + rd b (j : Int)) (by omega) (by omega) (by simp) (by
        rw [val_take a j (by omega), val_take b j hb, Int.mul_add, Int.mul_add]; omega)
      refine ⟨r, ?_, q2, q3⟩
      refine Ev.step (fun k => nat_N_Add.l0.eq_2 _ _ _ _ _ _ k) ?_
      rw [e]
      exact Ev.yes (by omega) (Ev.yes (by omega) (Ev.yes (by omega) (Ev.yes (by omega) (Ev.yes (by omega) q1))))
    · have e : (rd a (j : Int) + c) % 4294967296 = rd a (j : Int) + c := by omega
      obtain ⟨r, q1, q2, q3⟩ := go (rd a (j : Int) + c) (by omega) (by omega) (by simp) (by
        rw [val_take a j (by omega), take_len_val b j (by omega), Int.mul_add]; omega)
      refine ⟨r, ?_, q2, q3⟩
      refine Ev.step (fun k => nat_N_Add.l0.eq_2 _ _ _ _ _ _ k) ?_
      rw [e]
      exact Ev.yes (by omega) (Ev.yes (by omega) (Ev.yes (by omega) (Ev.no (by omega) (Ev.yes (by omega) q1))))
theorem add_j0 (a b : List Int) (hlen : b.length ≤ a.length) (hn : a.length ≤ 1000000) (h1 : ok BB a) (h2 : ok BB b) (t1 : noLead a) :
    ∃ r, Ev (fun k => nat_N_Add.j0 k a b) r ∧ Limbs r (val BB a + val BB b) ∧ r.length ≤ a.length + 1 := by
  obtain ⟨r, q1, q2, q3⟩ := add_l0 a b hlen hn h1 h2 t1 a.length 0 [] 0 (by omega) rfl (ok_nil _) (by omega) (by omega) (by simp [val])
  refine ⟨r, ?_, q2, q3⟩
  refine Ev.step (fun k => nat_N_Add.j0.eq_2 _ _ k) ?_
  rw [w64s (by omega)]
  exact Ev.opt_bind (make63 _ (by omega) (by omega)) q1
theorem add_ev {a b : List Int} (hn : a.length ≤ 1000000) (hm : b.length ≤ 1000000) (h1 : ok BB a) (h2 : ok BB b) (t1 : noLead a) (t2 : noLead b) :
    ∃ r, Ev (fun k => nat_N_Add.f k a b) r ∧ Limbs r (val BB a + val BB b) ∧ r.length ≤ a.length + b.length + 1 := by
  unfold nat_N_Add.f
  by_cases h : (a.length : Int) < (b.length : Int)
  · obtain ⟨r, q1, q2, q3⟩ := add_j0 b a (by omega) hm h2 h1 t2
    refine ⟨r, Ev.yes h q1, ?_, by omega⟩
    rw [Int.add_comm]; exact q2
  · obtain ⟨r, q1, q2, q3⟩ := add_j0 a b (by omega) hn h1 h2 t1
    exact ⟨r, Ev.no h q1, q2, by omega⟩
end Go.Proofs.YtolikobhjmnedaaDoor.Pure
