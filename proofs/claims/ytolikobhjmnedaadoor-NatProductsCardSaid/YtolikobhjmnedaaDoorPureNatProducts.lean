/- The pure statement of NatProducts: Mul, Divide and Gcd against the reference's. -/
import Derived.Test.YtolikobhjmnedaaDoorNatBoth
import Derived.Test.YtolikobhjmnedaaDoorNatRefDiv
set_option linter.unusedSimpArgs false
set_option linter.unusedVariables false
namespace Go.Proofs.YtolikobhjmnedaaDoor.Pure
open Go.RowKit Go.Proofs.YtolikobhjmnedaaDoor.GN Go.Proofs.YtolikobhjmnedaaDoorW.PrintWords Go.Proofs.YtolikobhjmnedaaDoorW.PrintLast Go.Proofs.YtolikobhjmnedaaDoor.Aid Go.Proofs.YtolikobhjmnedaaDoor.NatVal

theorem long_ev (a b : ByteArray) : ∃ t : Bool, Ev (fun k => gamehalllaw2_long.f k 120 [a, b]) t ∧ (t = false → a.size ≤ 120 ∧ b.size ≤ 120) := by
  have e1 : wrap64 (0 + 1) = 1 := w64 (by decide) (by decide)
  have e2 : wrap64 (1 + 1) = 2 := w64 (by decide) (by decide)
  by_cases ha : (a.size : Int) > 120
  · refine ⟨true, ?_, fun h => by simp at h⟩
    unfold gamehalllaw2_long.f slices_ContainsFunc_of_gamehalllaw2_long_1.f slices_IndexFunc_of_gamehalllaw2_long_1.f
    refine Ev.bind1 (a := true) (Ev.bind1 (a := 0) ?_ (Ev.now' (by decide))) (Ev.now _)
    refine Ev.step (fun k => slices_IndexFunc_of_gamehalllaw2_long_1.l0.eq_2 _ _ _ _ k) ?_
    refine Ev.yes (by simp) (Ev.yes (by simp) (Ev.yes (by simp) (Ev.opt_bind (a := true) ?_ (Ev.yes rfl (Ev.now _)))))
    show some (decide ((a.size : Int) > 120)) = some true
    rw [decide_eq_true ha]
  · by_cases hb : (b.size : Int) > 120
    · refine ⟨true, ?_, fun h => by simp at h⟩
      unfold gamehalllaw2_long.f slices_ContainsFunc_of_gamehalllaw2_long_1.f slices_IndexFunc_of_gamehalllaw2_long_1.f
      refine Ev.bind1 (a := true) (Ev.bind1 (a := 1) ?_ (Ev.now' (by decide))) (Ev.now _)
      refine Ev.step (fun k => slices_IndexFunc_of_gamehalllaw2_long_1.l0.eq_2 _ _ _ _ k) ?_
      refine Ev.yes (by simp) (Ev.yes (by simp) (Ev.yes (by simp) (Ev.opt_bind (a := false) ?_ (Ev.no (by simp) ?_))))
      · show some (decide ((a.size : Int) > 120)) = some false
        rw [decide_eq_false ha]
      · rw [e1]
        refine Ev.step (fun k => slices_IndexFunc_of_gamehalllaw2_long_1.l0.eq_2 _ _ _ _ k) ?_
        refine Ev.yes (by simp) (Ev.yes (by simp) (Ev.yes (by simp) (Ev.opt_bind (a := true) ?_ (Ev.yes rfl (Ev.now _)))))
        show some (decide ((b.size : Int) > 120)) = some true
        rw [decide_eq_true hb]
    · refine ⟨false, ?_, fun _ => by omega⟩
      unfold gamehalllaw2_long.f slices_ContainsFunc_of_gamehalllaw2_long_1.f slices_IndexFunc_of_gamehalllaw2_long_1.f
      refine Ev.bind1 (a := false) (Ev.bind1 (a := -1) ?_ (Ev.now' (by decide))) (Ev.now _)
      refine Ev.step (fun k => slices_IndexFunc_of_gamehalllaw2_long_1.l0.eq_2 _ _ _ _ k) ?_
      refine Ev.yes (by simp) (Ev.yes (by simp) (Ev.yes (by simp) (Ev.opt_bind (a := false) ?_ (Ev.no (by simp) ?_))))
      · show some (decide ((a.size : Int) > 120)) = some false
        rw [decide_eq_false ha]
      · rw [e1]
        refine Ev.step (fun k => slices_IndexFunc_of_gamehalllaw2_long_1.l0.eq_2 _ _ _ _ k) ?_
        refine Ev.yes (by simp) (Ev.yes (by simp) (Ev.yes (by simp) (Ev.opt_bind (a := false) ?_ (Ev.no (by simp) ?_))))
        · show some (decide ((b.size : Int) > 120)) = some false
          rw [decide_eq_false hb]
        · rw [e2]
          refine Ev.step (fun k => slices_IndexFunc_of_gamehalllaw2_long_1.l0.eq_2 _ _ _ _ k) ?_
          exact Ev.no (by simp) (Ev.now _)
theorem gcd_lt (m n B : Nat) (hB : 0 < B) (hm : m < B) (hn : n < B) : Nat.gcd m n < B := by
  by_cases h : n = 0
  · subst h; rw [Nat.gcd_zero_right]; exact hm
  · have := Nat.gcd_le_right m (show 0 < n by omega)
    omega
/-- what the operations return of two numbers -/
theorem muls (a b : ByteArray) (ha : natErr a = 0) (hb : natErr b = 0) {m n : Nat} (hm : val 10 (digs (bytesOf a)) = (m : Int)) (hn : val 10 (digs (bytesOf b)) = (n : Int)) :
    ∃ (t g : ByteArray) (z : ByteArray × ByteArray × Int), Ev (fun k => nat_Mul.f k a b) (toldOf t) ∧ Canon t ((m : Int) * n) ∧ Ev (fun k => nat_Gcd.f k a b) (toldOf g) ∧ Canon g ((Nat.gcd m n : Nat) : Int) ∧
      Ev (fun k => nat_Divide.f k a b) z ∧ (n = 0 → z = (⟨#[]⟩, ⟨#[]⟩, 18)) ∧ (n ≠ 0 → z.2.2 = 0 ∧ Canon z.1 ((m : Int) / n) ∧ Canon z.2.1 ((m : Int) % n)) := by
  obtain ⟨x, y, e0, lx, ly, nx, ny⟩ := both_ok a b ha hb
  rw [hm] at lx
  rw [hn] at ly
  obtain ⟨r, r1, r2, r3⟩ := mul_ev lx ly (by omega)
  obtain ⟨t, t1, t2, t3⟩ := told_ev r2 (by omega)
  obtain ⟨g, g1, g2⟩ := gcd_ev lx ly (by omega) (by omega)
  have hgl : g.length ≤ 2000 := by
    by_cases h : n = 0
    · subst h
      rw [Nat.gcd_zero_right] at g2
      have := limbs_len g2 lx (Int.le_refl _)
      omega
    · have := limbs_len g2 ly (by have := Nat.gcd_le_right m (show 0 < n by omega); omega)
      omega
  obtain ⟨s, s1, s2, s3⟩ := told_ev g2 (by omega)
  have hp := limbs_pos ly
  have hMul : Ev (fun k => nat_Mul.f k a b) (toldOf t) := by
    unfold nat_Mul.f
    exact Ev.bind1 e0 (Ev.yes rfl (Ev.bind1 r1 (Ev.bind1 t1 (Ev.now _))))
  have hGcd : Ev (fun k => nat_Gcd.f k a b) (toldOf s) := by
    unfold nat_Gcd.f
    exact Ev.bind1 e0 (Ev.yes rfl (Ev.bind1 g1 (Ev.bind1 s1 (Ev.now _))))
  by_cases h0 : n = 0
  · refine ⟨t, s, (⟨#[]⟩, ⟨#[]⟩, 18), hMul, t2, hGcd, s2, ?_, fun _ => rfl, fun h => absurd h0 h⟩
    unfold nat_Divide.f
    exact Ev.bind1 e0 (Ev.yes rfl (Ev.yes (by show (y.length : Int) = 0; omega) (Ev.now _)))
  · obtain ⟨q, d, q1, q2, q3, q4, q5⟩ := div_ev lx ly (by omega) (by omega)
    obtain ⟨qt, qt1, qt2, qt3⟩ := text_ev q2 (by omega)
    obtain ⟨dt, dt1, dt2, dt3⟩ := text_ev q3 (by omega)
    refine ⟨t, s, (qt, dt, 0), hMul, t2, hGcd, s2, ?_, fun h => absurd h h0, fun _ => ⟨rfl, qt2, dt2⟩⟩
    unfold nat_Divide.f
    exact Ev.bind1 e0 (Ev.yes rfl (Ev.no (by show ¬ (y.length : Int) = 0; omega) (Ev.bind1 q1 (Ev.bind1 qt1 (Ev.bind1 dt1 (Ev.now _))))))
theorem NatProducts : gamehalllaw2_NatProducts.Pure := by
  intro a b ha hb
  apply Ev.rounds
  unfold gamehalllaw2_NatProducts.f
  obtain ⟨lg, lg1, lg2⟩ := long_ev a b
  refine Ev.bind1 fact_ev (Ev.yes rfl (Ev.bind1 (rerr_ev a (by omega)) (Ev.bind1 (rerr_ev b (by omega)) (Ev.bind1 (first_two _ _) (Ev.bind1 lg1 ?_)))))
  by_cases h : natErr a = 0 ∧ natErr b = 0
  · obtain ⟨h1, h2⟩ := h
    obtain ⟨ca, la⟩ := canon_of h1
    obtain ⟨cb, lb⟩ := canon_of h2
    obtain ⟨m, hm⟩ := Int.eq_ofNat_of_zero_le (canon_val_nonneg ca)
    obtain ⟨n, hn⟩ := Int.eq_ofNat_of_zero_le (canon_val_nonneg cb)
    obtain ⟨t, g, z, t1, t2, g1, g2, z1, z2, z3⟩ := muls a b h1 h2 hm hn
    refine Ev.bind1 t1 (Ev.bind1 z1 (Ev.bind1 g1 ?_))
    rw [h1, h2]
    refine Ev.yes rfl ?_
    cases lg with
    | true => exact Ev.yes rfl (Ev.now _)
    | false =>
      obtain ⟨sa, sb⟩ := lg2 rfl
      rw [hm] at ca
      rw [hn] at cb
      have ma := canon_lt ca 120 sa
      have nb := canon_lt cb 120 sb
      have hP : (0 : Int) < 10 ^ 120 := Int.pow_pos (by decide)
      have hts : t.size ≤ 240 := canon_size t2 240 (by omega) (by
        have h3 : (m : Int) * n ≤ m * 10 ^ 120 := Int.mul_le_mul_of_nonneg_left (Int.le_of_lt nb) (by omega)
        have h4 := Int.mul_lt_mul_of_pos_right ma hP
        have h5 : (10 : Int) ^ 240 = 10 ^ 120 * 10 ^ 120 := by rw [← Int.pow_add]
        rw [h5]
        exact Int.lt_of_le_of_lt h3 h4)
      have hgs : g.size ≤ 120 := canon_size g2 120 (by omega) (by
        have h3 := gcd_lt m n (10 ^ 120) (Nat.pow_pos (by decide)) (by
          have : ((m : Nat) : Int) < ((10 ^ 120 : Nat) : Int) := by rw [Int.natCast_pow]; exact ma
          exact Int.ofNat_lt.1 this) (by
          have : ((n : Nat) : Int) < ((10 ^ 120 : Nat) : Int) := by rw [Int.natCast_pow]; exact nb
          exact Int.ofNat_lt.1 this)
        have h4 : ((Nat.gcd m n : Nat) : Int) < ((10 ^ 120 : Nat) : Int) := Int.ofNat_lt.2 h3
        rw [Int.natCast_pow] at h4
        exact h4)
      rw [told_short (show t.size ≤ 2000 by omega), told_short (show g.size ≤ 2000 by omega)]
      obtain ⟨p, p1, p2, p3⟩ := rmul_ev ca cb (by omega)
      obtain ⟨q, q1, q2⟩ := rgcd_ev ca cb (by omega) (by omega)
      refine Ev.no (by simp) (Ev.yes rfl (Ev.bind1 p1 (Ev.yes (canon_inj t2 p2) (Ev.yes rfl (Ev.bind1 q1 ?_)))))
      have hgq : (g.toList != q.toList) = false := by simp [canon_inj g2 q2]
      rw [hgq]
      refine Ev.step (fun k => gamehalllaw2_NatProducts.j0.eq_2 _ _ _ _ _ _ k) ?_
      refine Ev.no (by simp) ?_
      have hcz := canon_zero cb
      by_cases h0 : n = 0
      · have hz := z2 h0
        subst hz
        exact Ev.yes (hcz.2 (by omega)) (Ev.yes rfl (Ev.yes nil_list (Ev.now' (by simp only [nil_list]; rfl))))
      · obtain ⟨z4, z5, z6⟩ := z3 h0
        obtain ⟨w, w1, w2, w3'⟩ := rdiv_ev ca cb (by omega) (by omega) (by omega)
        exact Ev.no (fun hh => by have := hcz.1 hh; omega) (Ev.bind1 w1 (Ev.yes z4 (Ev.yes (canon_inj z5 w2) (Ev.now' (by simp [canon_inj z6 w3'])))))
  · obtain ⟨p, hp, hw, hcase⟩ : ∃ p, p ≠ 0 ∧ (if natErr a = 0 then natErr b else natErr a) = p ∧ (natErr a = p ∨ natErr a = 0 ∧ natErr b = p) := by
      by_cases h1 : natErr a = 0
      · exact ⟨natErr b, fun h2 => h ⟨h1, h2⟩, by rw [if_pos h1], .inr ⟨h1, rfl⟩⟩
      · exact ⟨natErr a, h1, by rw [if_neg h1], .inl rfl⟩
    have hb' := both_bad a b (by omega) (by omega) hp hcase
    have h1 : Ev (fun k => nat_Mul.f k a b) (⟨#[]⟩, p) := by
      unfold nat_Mul.f
      exact Ev.bind1 hb' (Ev.no hp (Ev.now _))
    have h2 : Ev (fun k => nat_Divide.f k a b) (⟨#[]⟩, ⟨#[]⟩, p) := by
      unfold nat_Divide.f
      exact Ev.bind1 hb' (Ev.no hp (Ev.now _))
    have h3 : Ev (fun k => nat_Gcd.f k a b) (⟨#[]⟩, p) := by
      unfold nat_Gcd.f
      exact Ev.bind1 hb' (Ev.no hp (Ev.now _))
    refine Ev.bind1 h1 (Ev.bind1 h2 (Ev.bind1 h3 ?_))
    rw [hw]
    exact Ev.no hp (Ev.yes rfl (Ev.yes rfl (Ev.yes rfl (Ev.yes nil_list (Ev.yes nil_list (Ev.yes nil_list (Ev.now' (by simp only [nil_list]; rfl))))))))
end Go.Proofs.YtolikobhjmnedaaDoor.Pure
