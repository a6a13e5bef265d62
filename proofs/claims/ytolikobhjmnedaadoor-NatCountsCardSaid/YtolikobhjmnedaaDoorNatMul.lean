/- Package nat's Mul over limbs in the base 10^9. -/
import Derived.Test.YtolikobhjmnedaaDoorNatSub
import Derived.Test.YtolikobhjmnedaaDoorNatAlg
import Derived.IntWalk
set_option linter.unusedSimpArgs false
set_option linter.unusedVariables false
namespace Go.Proofs.YtolikobhjmnedaaDoor.Pure
open Go.RowKit Go.Proofs.YtolikobhjmnedaaDoor.GN Go.Proofs.YtolikobhjmnedaaDoorW.PrintWords Go.Proofs.YtolikobhjmnedaaDoorW.PrintLast Go.Proofs.YtolikobhjmnedaaDoor.Aid Go.Proofs.YtolikobhjmnedaaDoor.NatVal

theorem u64 {i : Int} (h0 : 0 ≤ i) (h1 : i < 18446744073709551616) : IntKind.u64.wrap i = i := IntWalk.u64_in i ⟨h0, by omega⟩
theorem val_set {b : Int} : ∀ (l : List Int) (j : Nat) (v : Int), j < l.length → val b (l.set j v) = val b l + b ^ j * (v - rd l (j : Int))
  | [], j, v, h => by simp at h
  | x :: l, 0, v, h => by simp [val, rd]; omega
  | x :: l, j + 1, v, h => by
    have ih := val_set (b := b) l j v (by simpa using h)
    have e : rd (x :: l) ((j + 1 : Nat) : Int) = rd l (j : Int) := by simp [rd]
    rw [List.set_cons_succ, e]
    simp only [val]
    rw [ih, Int.mul_add, Int.pow_succ, Int.mul_comm (b ^ j) b, Int.mul_assoc]
    omega
theorem ok_set {b : Int} {l : List Int} (h : ok b l) (j : Nat) {v : Int} (h0 : 0 ≤ v) (h1 : v < b) : ok b (l.set j v) := by
  intro x hx
  rcases List.mem_or_eq_of_mem_set hx with hx | rfl
  · exact h x hx
  · exact ⟨h0, h1⟩
theorem rd_set_self (l : List Int) (j : Nat) (v : Int) (h : j < l.length) : rd (l.set j v) (j : Int) = v := by
  rw [rd_eq _ j (by simpa using h), List.getElem_set_self]
theorem rd_set_ne (l : List Int) (j p : Nat) (v : Int) (h : j ≠ p) : rd (l.set j v) (p : Int) = rd l (p : Int) := by
  simp only [rd, Int.toNat_natCast, List.getD_eq_getElem?_getD]
  rw [List.getElem?_set_ne h]
theorem rd_rep (n p : Nat) : rd (List.replicate n (0 : Int)) (p : Int) = 0 := by
  simp only [rd, Int.toNat_natCast, List.getD_eq_getElem?_getD, List.getElem?_replicate]
  split <;> rfl
theorem mul_small {x y : Int} (hx0 : 0 ≤ x) (hx1 : x ≤ 999999999) (hy0 : 0 ≤ y) (hy1 : y ≤ 999999999) : 0 ≤ x * y ∧ x * y ≤ 999999998000000001 := by
  refine ⟨Int.mul_nonneg hx0 hy0, ?_⟩
  have := Int.mul_le_mul hx1 hy1 hy0 (by omega)
  omega
theorem mulstep {x y o c : Int} (hx0 : 0 ≤ x) (hx1 : x < 1000000000) (hy0 : 0 ≤ y) (hy1 : y < 1000000000) (ho0 : 0 ≤ o) (ho1 : o < 1000000000) (hc0 : 0 ≤ c) (hc1 : c < 1000000000) :
    Int.tmod (IntKind.u64.wrap ((IntKind.u64.wrap ((IntKind.u64.wrap ((IntKind.u64.wrap x) * (IntKind.u64.wrap y))) + (IntKind.u64.wrap o))) + c)) 1000000000 % 4294967296 = (x * y + o + c) % 1000000000 ∧
    IntKind.u64.wrap (Int.tdiv (IntKind.u64.wrap ((IntKind.u64.wrap ((IntKind.u64.wrap ((IntKind.u64.wrap x) * (IntKind.u64.wrap y))) + (IntKind.u64.wrap o))) + c)) 1000000000) = (x * y + o + c) / 1000000000 ∧ (x * y + o + c) / 1000000000 < 1000000000 := by
  obtain ⟨m0, m1⟩ := mul_small hx0 (show x ≤ 999999999 by omega) hy0 (show y ≤ 999999999 by omega)
  rw [u64 (i := x) (by omega) (by omega), u64 (i := y) (by omega) (by omega), u64 (i := x * y) (by omega) (by omega), u64 (i := o) (by omega) (by omega), u64 (i := x * y + o) (by omega) (by omega), u64 (i := x * y + o + c) (by omega) (by omega),
    Int.tmod_eq_emod_of_nonneg (by omega), Int.tdiv_eq_ediv_of_nonneg (by omega), u64 (by omega) (by omega)]
  omega
theorem wadd (i j : Nat) (h : i + j ≤ 10000000) : wrap64 ((i : Int) + (j : Int)) = ((i + j : Nat) : Int) := by rw [w64] <;> omega
theorem mul_l1 (a b : List Int) (i : Nat) (x : Int) (N : Nat) (V : Int) (R : List Int → Prop) (hx0 : 0 ≤ x) (hx1 : x < 1000000000) (hb : ok BB b) (hi : i + b.length < N) (hN : N ≤ 10000000)
    (next : ∀ out' : List Int, out'.length = N → ok BB out' → (∀ p : Nat, i + b.length < p → rd out' (p : Int) = 0) → val BB out' = V → ∃ r, Ev (fun k => nat_N_Mul.l0 k b out' a (a.length : Int) (wrap64 ((i : Int) + 1))) r ∧ R r) (d : Nat) :
    ∀ (j : Nat) (out : List Int) (c : Int), j + d = b.length → out.length = N → ok BB out → (∀ p : Nat, i + b.length ≤ p → rd out (p : Int) = 0) → 0 ≤ c → c < 1000000000 →
      val BB out + BB ^ (i + j) * (c + x * val BB (b.drop j)) = V →
      ∃ r, Ev (fun k => nat_N_Mul.l1 k b out (i : Int) x c a (a.length : Int) (i : Int) b (b.length : Int) (j : Int)) r ∧ R r := by
  induction d with
  | zero =>
    intro j out c hj ho hok hz hc0 hc1 hv
    rw [show b.drop j = [] from List.drop_of_length_le (by omega)] at hv
    simp only [val, Int.mul_zero, Int.add_zero] at hv
    have hj' : j = b.length := by omega
    subst hj'
    obtain ⟨r, q1, q2⟩ := next (out.set (i + b.length) c) (by simpa using ho) (ok_set hok _ hc0 hc1) (fun p hp => by rw [rd_set_ne _ _ _ _ (by omega)]; exact hz p (by omega)) (by
      rw [val_set _ _ _ (by omega), hz _ (Nat.le_refl _), Int.sub_zero]; exact hv)
    refine ⟨r, ?_, q2⟩
    refine Ev.step (fun k => nat_N_Mul.l1.eq_2 _ _ _ _ _ _ _ _ _ _ _ k) ?_
    have e : wrap64 ((i : Int) + (b.length : Int)) = ((i + b.length : Nat) : Int) := by rw [w64] <;> omega
    rw [e]
    refine Ev.no (by omega) (Ev.yes (by omega) (Ev.yes (by omega) ?_))
    rw [Int.toNat_natCast, show c % 4294967296 = c by omega]
    exact q1
  | succ d ih =>
    intro j out c hj ho hok hz hc0 hc1 hv
    have g1 : i + j ≤ 10000000 := by omega
    have g2 : j < 1000000000000000 := by omega
    have b1 : (j : Int) < (b.length : Int) := by omega
    have b2 : (0 : Int) ≤ (j : Int) := by omega
    have b3 : (0 : Int) ≤ ((i + j : Nat) : Int) := by omega
    have b4 : ((i + j : Nat) : Int) < (out.length : Int) := by omega
    have hy := ok_rd hb j (by omega)
    have hB : BB = 1000000000 := rfl
    have hr := ok_rd hok (i + j) (by omega)
    rw [hB] at hy hr
    have s3 := (mulstep hx0 hx1 hy.1 hy.2 hr.1 hr.2 hc0 hc1).2.2
    obtain ⟨m0, m1⟩ := mul_small hx0 (show x ≤ 999999999 by omega) hy.1 (show rd b (j : Int) ≤ 999999999 by omega)
    obtain ⟨r, q1, q2⟩ := ih (j + 1) (out.set (i + j) ((x * rd b (j : Int) + rd out ((i + j : Nat) : Int) + c) % 1000000000)) ((x * rd b (j : Int) + rd out ((i + j : Nat) : Int) + c) / 1000000000) (by omega) (by simpa using ho)
      (ok_set hok _ (by omega) (by show _ < (1000000000 : Int); omega)) (fun p hp => by rw [rd_set_ne _ _ _ _ (by omega)]; exact hz p hp) (by omega) s3 (by
        rw [val_set _ _ _ (by omega), ← hv, drop_rd b j (by omega), ← Nat.add_assoc, Int.pow_succ]
        simp only [val]
        have key : (x * rd b (j : Int) + rd out ((i + j : Nat) : Int) + c) % 1000000000 + BB * ((x * rd b (j : Int) + rd out ((i + j : Nat) : Int) + c) / 1000000000) = x * rd b (j : Int) + rd out ((i + j : Nat) : Int) + c := by
          rw [hB]; omega
        exact NatAlg.mul1 _ _ _ _ _ _ _ _ _ _ key)
    refine ⟨r, ?_, q2⟩
    refine Ev.step (fun k => nat_N_Mul.l1.eq_2 _ _ _ _ _ _ _ _ _ _ _ k) ?_
    rw [wadd i j g1, (mulstep hx0 hx1 hy.1 hy.2 hr.1 hr.2 hc0 hc1).1, (mulstep hx0 hx1 hy.1 hy.2 hr.1 hr.2 hc0 hc1).2.1, w64s g2]
    refine Ev.yes b1 (Ev.yes b2 (Ev.yes b1 (Ev.yes b3 (Ev.yes b4 ?_))))
    rw [Int.toNat_natCast]
    exact q1
theorem mul_l0 (a b : List Int) (ha : ok BB a) (hb : ok BB b) (hn : a.length + b.length ≤ 1000000) (d : Nat) :
    ∀ (i : Nat) (out : List Int), i + d = a.length → out.length = a.length + b.length → ok BB out → (∀ p : Nat, i + b.length ≤ p → rd out (p : Int) = 0) →
      val BB out + BB ^ i * (val BB (a.drop i) * val BB b) = val BB a * val BB b →
      ∃ r, Ev (fun k => nat_N_Mul.l0 k b out a (a.length : Int) (i : Int)) r ∧ Limbs r (val BB a * val BB b) ∧ r.length ≤ a.length + b.length := by
  induction d with
  | zero =>
    intro i out hi ho hok hz hv
    rw [show a.drop i = [] from List.drop_of_length_le (by omega)] at hv
    simp only [val, Int.zero_mul, Int.mul_zero, Int.add_zero] at hv
    obtain ⟨r, q1, q2, q3, q4, q5⟩ := trimf_ev out (by omega) hok
    refine ⟨r, ?_, ⟨by rw [q2, hv], q3, q4⟩, by omega⟩
    refine Ev.step (fun k => nat_N_Mul.l0.eq_2 _ _ _ _ _ k) ?_
    exact Ev.no (by omega) (Ev.bind1 q1 (Ev.now _))
  | succ d ih =>
    intro i out hi ho hok hz hv
    have hx := ok_rd ha i (by omega)
    have hB : BB = 1000000000 := rfl
    rw [hB] at hx
    obtain ⟨r, q1, q2, q3⟩ := mul_l1 a b i (rd a (i : Int)) (a.length + b.length) (val BB out + BB ^ i * (rd a (i : Int) * val BB b)) (fun r => Limbs r (val BB a * val BB b) ∧ r.length ≤ a.length + b.length) hx.1 hx.2 hb (by omega) (by omega)
      (fun out' h1 h2 h3 h4 => by
        rw [w64s (by omega)]
        exact ih (i + 1) out' (by omega) h1 h2 (fun p hp => h3 p (by omega)) (by
          rw [h4, ← hv, drop_rd a i (by omega), Int.pow_succ]
          simp only [val]
          exact NatAlg.mul2 _ _ _ _ _ _)) b.length 0 out 0 (by omega) ho hok hz (by omega) (by omega) (by rw [List.drop_zero, Nat.add_zero, Int.zero_add])
    refine ⟨r, ?_, q2, q3⟩
    refine Ev.step (fun k => nat_N_Mul.l0.eq_2 _ _ _ _ _ k) ?_
    exact Ev.yes (by omega) (Ev.yes (by omega) (Ev.yes (by omega) q1))
theorem mul_ev {a b : List Int} {u v : Int} (ha : Limbs a u) (hb : Limbs b v) (hn : a.length + b.length ≤ 1000000) :
    ∃ r, Ev (fun k => nat_N_Mul.f k a b) r ∧ Limbs r (u * v) ∧ r.length ≤ a.length + b.length := by
  obtain ⟨hu, oa, ta⟩ := ha
  obtain ⟨hw, ob, tb⟩ := hb
  subst hu hw
  obtain ⟨r, q1, q2, q3⟩ := mul_l0 a b oa ob hn a.length 0 (List.replicate (a.length + b.length) 0) (by omega) (by simp) (fun x hx => by
    rw [List.eq_of_mem_replicate hx]; decide) (fun p _ => rd_rep _ p) (by
    have := val_zeros (b := BB) [] (a.length + b.length)
    rw [List.nil_append] at this
    rw [this]; simp [val])
  refine ⟨r, ?_, q2, q3⟩
  unfold nat_N_Mul.f
  have e : wrap64 ((a.length : Int) + (b.length : Int)) = ((a.length + b.length : Nat) : Int) := by rw [w64] <;> omega
  rw [e, Int.toNat_natCast]
  exact Ev.yes (by omega) (Ev.yes (by omega) q1)
end Go.Proofs.YtolikobhjmnedaaDoor.Pure
