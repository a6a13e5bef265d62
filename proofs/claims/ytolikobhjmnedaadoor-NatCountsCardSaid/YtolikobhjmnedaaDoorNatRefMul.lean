/- The reference's NatMul: all products of digits. -/
import Derived.Test.YtolikobhjmnedaaDoorNatRef
import Derived.Test.YtolikobhjmnedaaDoorNatShort
set_option linter.unusedSimpArgs false
set_option linter.unusedVariables false
namespace Go.Proofs.YtolikobhjmnedaaDoor.Pure
open Go.RowKit Go.Proofs.YtolikobhjmnedaaDoor.GN Go.Proofs.YtolikobhjmnedaaDoorW.PrintWords Go.Proofs.YtolikobhjmnedaaDoorW.PrintLast Go.Proofs.YtolikobhjmnedaaDoor.Aid Go.Proofs.YtolikobhjmnedaaDoor.NatVal

theorem ok_of_rd {b : Int} {l : List Int} (h : ∀ p : Nat, p < l.length → 0 ≤ rd l (p : Int) ∧ rd l (p : Int) < b) : ok b l := by
  intro x hx
  obtain ⟨p, hp, rfl⟩ := List.mem_iff_getElem.1 hx
  have := h p hp
  rw [rd_eq l p hp] at this
  exact this
theorem val_nn {b : Int} (hb : 0 ≤ b) : ∀ {l : List Int}, (∀ p : Nat, 0 ≤ rd l (p : Int)) → 0 ≤ val b l
  | [], _ => by simp [val]
  | x :: r, h => by
    have h0 := h 0
    have h1 : 0 ≤ val b r := val_nn hb (fun p => by have := h (p + 1); simpa [rd] using this)
    have h2 : 0 ≤ b * val b r := Int.mul_nonneg hb h1
    simp [rd] at h0
    simp only [val]; omega
theorem val_ge_top {l : List Int} (n : Nat) (hl : l.length = n + 1) (h : ∀ p : Nat, 0 ≤ rd l (p : Int)) : 10 ^ n * rd l (n : Int) ≤ val 10 l := by
  have e := rd_last l n hl
  have h1 : val 10 l = val 10 (l.take n) + 10 ^ n * rd l (n : Int) := by
    conv => lhs; rw [e]
    rw [val_snoc, List.length_take, Nat.min_eq_left (by omega)]
  have h2 : 0 ≤ val 10 (l.take n) := val_nn (by decide) (fun p => by
    by_cases hp : p < n
    · have : rd (l.take n) (p : Int) = rd l (p : Int) := by
        simp only [rd, Int.toNat_natCast, List.getD_eq_getElem?_getD, List.getElem?_take, if_pos hp]
      rw [this]; exact h p
    · rw [rd_out _ p (by simp; omega)]; omega)
  omega
theorem wpred (N : Nat) (h : 1 ≤ N) (hN : N ≤ 1000000) : wrap64 ((N : Int) - 1) = ((N - 1 : Nat) : Int) := by rw [w64] <;> omega
theorem rmul_l2 (a b : ByteArray) (i N : Nat) (V : Int) (R : ByteArray → Prop) (hN : N ≤ 200000) (hN1 : 1 ≤ N) (hV : V < 10 ^ (N - 1))
    (next : ∀ out' : List Int, out'.length = N → ok 10 out' → val 10 out' = V → ∃ t, Ev (fun k => gamehallref2_NatMul.l0 k a b out' (a.size : Int) (wrap64 ((i : Int) + 1))) t ∧ R t) (d : Nat) :
    ∀ (p : Nat) (out : List Int), p + d = N - 1 → out.length = N → (∀ q : Nat, 0 ≤ rd out (q : Int)) → (∀ q : Nat, q < p → rd out (q : Int) ≤ 9) → rd out (p : Int) ≤ 100 → (∀ q : Nat, p < q → rd out (q : Int) ≤ 90) → val 10 out = V →
      ∃ t, Ev (fun k => gamehallref2_NatMul.l2 k a b out (a.size : Int) (i : Int) ((N - 1 : Nat) : Int) (p : Int)) t ∧ R t := by
  induction d with
  | zero =>
    intro p out hp ho h0 h9 h100 h90 hv
    obtain ⟨t, t1, t2⟩ := next out ho (ok_of_rd (fun q hq => by
      refine ⟨h0 q, ?_⟩
      by_cases hqp : q < p
      · have := h9 q hqp; omega
      · have hq' : q = N - 1 := by omega
        subst hq'
        have := val_ge_top (l := out) (N - 1) (by omega) h0
        rw [hv] at this
        by_cases h : rd out ((N - 1 : Nat) : Int) < 10
        · exact h
        · have h1 : (10 : Int) ^ (N - 1) * 1 ≤ 10 ^ (N - 1) * rd out ((N - 1 : Nat) : Int) := Int.mul_le_mul_of_nonneg_left (by omega) (Int.le_of_lt (Int.pow_pos (by decide)))
          omega)) hv
    refine ⟨t, ?_, t2⟩
    refine Ev.step (fun k => gamehallref2_NatMul.l2.eq_2 _ _ _ _ _ _ _ k) ?_
    exact Ev.no (by omega) t1
  | succ d ih =>
    intro p out hp ho h0 h9 h100 h90 hv
    have hd0 := h0 p
    have hd1 := h0 (p + 1)
    have hd2 := h90 (p + 1) (by omega)
    have g2 : p < 1000000000000000 := by omega
    have b1 : (p : Int) < ((N - 1 : Nat) : Int) := by omega
    have b2 : (0 : Int) ≤ (p : Int) := by omega
    have b3 : (p : Int) < (out.length : Int) := by omega
    by_cases hbig : rd out (p : Int) > 9
    · have hm : 10 * (rd out (p : Int) / 10) + rd out (p : Int) % 10 = rd out (p : Int) := by omega
      obtain ⟨t, t1, t2⟩ := ih (p + 1) ((out.set (p + 1) (rd out ((p + 1 : Nat) : Int) + rd out (p : Int) / 10)).set p (rd out (p : Int) % 10)) (by omega) (by simpa using ho) (fun q => by
          by_cases hq : p = q
          · subst hq; rw [rd_set_self _ _ _ (by simp; omega)]; omega
          · rw [rd_set_ne _ _ _ _ hq]
            by_cases hq1 : p + 1 = q
            · subst hq1; rw [rd_set_self _ _ _ (by omega)]; omega
            · rw [rd_set_ne _ _ _ _ hq1]; exact h0 q) (fun q hq => by
          by_cases hq' : p = q
          · subst hq'; rw [rd_set_self _ _ _ (by simp; omega)]; omega
          · rw [rd_set_ne _ _ _ _ hq', rd_set_ne _ _ _ _ (by omega)]; exact h9 q (by omega)) (by
          rw [rd_set_ne _ _ _ _ (by omega), rd_set_self _ _ _ (by omega)]; omega) (fun q hq => by
          rw [rd_set_ne _ _ _ _ (by omega), rd_set_ne _ _ _ _ (by omega)]; exact h90 q (by omega)) (by
          rw [val_set _ _ _ (by simp; omega), val_set _ _ _ (by omega), rd_set_ne _ _ _ _ (by omega), ← hv, Int.pow_succ]
          exact NatAlg.norm1 _ _ _ _ _ _ hm)
      refine ⟨t, ?_, t2⟩
      refine Ev.step (fun k => gamehallref2_NatMul.l2.eq_2 _ _ _ _ _ _ _ k) ?_
      have b4 : (0 : Int) ≤ ((p + 1 : Nat) : Int) := by omega
      have b5 : ((p + 1 : Nat) : Int) < (out.length : Int) := by omega
      rw [w64s g2, Int.tdiv_eq_ediv_of_nonneg hd0, w64 (i := rd out (p : Int) / 10) (by omega) (by omega), w64 (i := rd out ((p + 1 : Nat) : Int) + rd out (p : Int) / 10) (by omega) (by omega)]
      refine Ev.yes b1 (Ev.yes b2 (Ev.yes b3 (Ev.yes hbig (Ev.yes b4 (Ev.yes b5 (Ev.some_bind ?_))))))
      rw [Int.toNat_natCast, Int.toNat_natCast, rd_set_ne _ _ _ _ (by omega), Int.tmod_eq_emod_of_nonneg hd0]
      exact t1
    · obtain ⟨t, t1, t2⟩ := ih (p + 1) out (by omega) ho h0 (fun q hq => by
          by_cases hq' : q = p
          · subst hq'; omega
          · exact h9 q (by omega)) (by omega) (fun q hq => h90 q (by omega)) hv
      refine ⟨t, ?_, t2⟩
      refine Ev.step (fun k => gamehallref2_NatMul.l2.eq_2 _ _ _ _ _ _ _ k) ?_
      rw [w64s g2]
      exact Ev.yes b1 (Ev.yes b2 (Ev.yes b3 (Ev.no hbig t1)))
theorem rmul_l1 (a b : ByteArray) (hb : asc (bytesOf b)) (i N : Nat) (x V : Int) (R : ByteArray → Prop) (hN : N ≤ 200000) (hi : i + b.size < N) (hx0 : 0 ≤ x) (hx1 : x ≤ 9) (hV : V < 10 ^ (N - 1))
    (next : ∀ out' : List Int, out'.length = N → ok 10 out' → val 10 out' = V → ∃ t, Ev (fun k => gamehallref2_NatMul.l0 k a b out' (a.size : Int) (wrap64 ((i : Int) + 1))) t ∧ R t) (d : Nat) :
    ∀ (j : Nat) (out : List Int), j + d = b.size → out.length = N → (∀ q : Nat, 0 ≤ rd out (q : Int)) → (∀ q : Nat, rd out (q : Int) ≤ 90) → (∀ q : Nat, i + j ≤ q → rd out (q : Int) ≤ 9) → val 10 out + 10 ^ (i + j) * (x * val 10 ((digs (bytesOf b)).drop j)) = V →
      ∃ t, Ev (fun k => gamehallref2_NatMul.l1 k a b out (i : Int) x (a.size : Int) (i : Int) (b.size : Int) (j : Int)) t ∧ R t := by
  have lb : (digs (bytesOf b)).length = b.size := by rw [digs_length, bytesOf_length]
  induction d with
  | zero =>
    intro j out hj ho h0 h90 h9 hv
    rw [List.drop_of_length_le (by omega)] at hv
    simp only [val, Int.mul_zero, Int.add_zero] at hv
    obtain ⟨t, t1, t2⟩ := rmul_l2 a b i N V R hN (by omega) hV next (N - 1) 0 out (by omega) ho h0 (fun q hq => by omega) (by have := h90 0; simp only [Int.natCast_zero] at this ⊢; omega) (fun q _ => h90 q) hv
    refine ⟨t, ?_, t2⟩
    refine Ev.step (fun k => gamehallref2_NatMul.l1.eq_2 _ _ _ _ _ _ _ _ _ k) ?_
    rw [ho, wpred N (by omega) (by omega), Int.toNat_natCast, List.length_take, ho, Nat.min_eq_left (by omega)]
    exact Ev.no (by omega) (Ev.yes (by omega) (Ev.yes (by omega) t1))
  | succ d ih =>
    intro j out hj ho h0 h90 h9 hv
    have hy := ok_rd (digs_ok hb) j (by omega)
    have hr0 := h0 (i + j)
    have hr9 := h9 (i + j) (by omega)
    have hxy0 : 0 ≤ x * rd (digs (bytesOf b)) (j : Int) := Int.mul_nonneg hx0 hy.1
    have hxy1 : x * rd (digs (bytesOf b)) (j : Int) ≤ 9 * 9 := Int.mul_le_mul hx1 (by omega) hy.1 (by omega)
    have g1 : i + j ≤ 10000000 := by omega
    have g2 : j < 1000000000000000 := by omega
    have b1 : (j : Int) < (b.size : Int) := by omega
    have b3 : (0 : Int) ≤ ((i + j : Nat) : Int) := by omega
    have b4 : ((i + j : Nat) : Int) < (out.length : Int) := by omega
    obtain ⟨t, t1, t2⟩ := ih (j + 1) (out.set (i + j) (rd out ((i + j : Nat) : Int) + x * rd (digs (bytesOf b)) (j : Int))) (by omega) (by simpa using ho) (fun q => by
        by_cases hq : i + j = q
        · subst hq; rw [rd_set_self _ _ _ (by omega)]; omega
        · rw [rd_set_ne _ _ _ _ hq]; exact h0 q) (fun q => by
        by_cases hq : i + j = q
        · subst hq; rw [rd_set_self _ _ _ (by omega)]; omega
        · rw [rd_set_ne _ _ _ _ hq]; exact h90 q) (fun q hq => by
        rw [rd_set_ne _ _ _ _ (by omega)]; exact h9 q (by omega)) (by
        rw [val_set _ _ _ (by omega), ← hv, drop_rd (digs (bytesOf b)) j (by omega), ← Nat.add_assoc, Int.pow_succ]
        simp only [val]
        exact NatAlg.row1 _ _ _ _ _ _ _)
    refine ⟨t, ?_, t2⟩
    refine Ev.step (fun k => gamehallref2_NatMul.l1.eq_2 _ _ _ _ _ _ _ _ _ k) ?_
    rw [wadd i j g1, w64s g2]
    refine Ev.yes b1 (Ev.yes b3 (Ev.yes b4 (Ev.opt_bind (digit_eq b hb (by omega) j (by omega)) ?_)))
    rw [w64 (i := x * rd (digs (bytesOf b)) (j : Int)) (by omega) (by omega), w64 (i := rd out ((i + j : Nat) : Int) + x * rd (digs (bytesOf b)) (j : Int)) (by omega) (by omega), Int.toNat_natCast]
    exact t1
theorem rmul_l0 (a b : ByteArray) (ha : asc (bytesOf a)) (hb : asc (bytesOf b)) (hs : a.size + b.size ≤ 100000) (hV : val 10 (digs (bytesOf a)) * val 10 (digs (bytesOf b)) < 10 ^ (a.size + b.size)) (d : Nat) :
    ∀ (i : Nat) (out : List Int), i + d = a.size → out.length = a.size + b.size + 1 → ok 10 out → val 10 out + 10 ^ i * (val 10 ((digs (bytesOf a)).drop i) * val 10 (digs (bytesOf b))) = val 10 (digs (bytesOf a)) * val 10 (digs (bytesOf b)) →
      ∃ t, Ev (fun k => gamehallref2_NatMul.l0 k a b out (a.size : Int) (i : Int)) t ∧ Canon t (val 10 (digs (bytesOf a)) * val 10 (digs (bytesOf b))) ∧ t.size ≤ 100010 := by
  have la : (digs (bytesOf a)).length = a.size := by rw [digs_length, bytesOf_length]
  induction d with
  | zero =>
    intro i out hi ho hok hv
    rw [List.drop_of_length_le (by omega)] at hv
    simp only [val, Int.zero_mul, Int.mul_zero, Int.add_zero] at hv
    obtain ⟨t, t1, t2, t3⟩ := rtext_ev out (by omega) hok
    rw [hv] at t2
    refine ⟨t, ?_, t2, by omega⟩
    refine Ev.step (fun k => gamehallref2_NatMul.l0.eq_2 _ _ _ _ _ k) ?_
    exact Ev.no (by omega) (Ev.bind1 t1 (Ev.now _))
  | succ d ih =>
    intro i out hi ho hok hv
    have hx := ok_rd (digs_ok ha) i (by omega)
    have hB : 0 ≤ val 10 (digs (bytesOf b)) := val_nonneg (by decide) (digs_ok hb)
    have hA : 0 ≤ val 10 ((digs (bytesOf a)).drop (i + 1)) := val_nonneg (by decide) (fun x hx => digs_ok ha x (List.mem_of_mem_drop hx))
    have hle : val 10 out + 10 ^ i * (rd (digs (bytesOf a)) (i : Int) * val 10 (digs (bytesOf b))) ≤ val 10 (digs (bytesOf a)) * val 10 (digs (bytesOf b)) := by
      rw [← hv, drop_rd (digs (bytesOf a)) i (by omega)]
      simp only [val]
      rw [NatAlg.row2]
      have : 0 ≤ 10 ^ i * (10 * val 10 ((digs (bytesOf a)).drop (i + 1)) * val 10 (digs (bytesOf b))) := Int.mul_nonneg (Int.le_of_lt (Int.pow_pos (by decide))) (Int.mul_nonneg (Int.mul_nonneg (by decide) hA) hB)
      omega
    have g2 : i < 1000000000000000 := by omega
    have b1 : (i : Int) < (a.size : Int) := by omega
    obtain ⟨t, t1, t2⟩ := rmul_l1 a b hb i (a.size + b.size + 1) (rd (digs (bytesOf a)) (i : Int)) (val 10 out + 10 ^ i * (rd (digs (bytesOf a)) (i : Int) * val 10 (digs (bytesOf b)))) (fun t => Canon t (val 10 (digs (bytesOf a)) * val 10 (digs (bytesOf b))) ∧ t.size ≤ 100010) (by omega) (by omega) hx.1 (by omega) (by
        rw [Nat.add_sub_cancel]; omega) (fun out' h1 h2 h3 => by
        rw [w64s g2]
        exact ih (i + 1) out' (by omega) h1 h2 (by
          rw [h3, ← hv, drop_rd (digs (bytesOf a)) i (by omega), Int.pow_succ]
          simp only [val]
          exact NatAlg.mul2 _ _ _ _ _ _)) b.size 0 out (by omega) ho (fun q => (ok_rd' (by decide) hok q).1) (fun q => by have := (ok_rd' (by decide) hok q).2; omega) (fun q _ => by have := (ok_rd' (by decide) hok q).2; omega) (by rw [List.drop_zero, Nat.add_zero])
    refine ⟨t, ?_, t2⟩
    refine Ev.step (fun k => gamehallref2_NatMul.l0.eq_2 _ _ _ _ _ k) ?_
    exact Ev.yes b1 (Ev.opt_bind (digit_eq a ha (by omega) i (by omega)) t1)
theorem rmul_ev {a b : ByteArray} {u v : Int} (ha : Canon a u) (hb : Canon b v) (hs : a.size + b.size ≤ 100000) :
    ∃ t, Ev (fun k => gamehallref2_NatMul.f k a b) t ∧ Canon t (u * v) ∧ t.size ≤ 100010 := by
  have h1 := val_lt (b := 10) (by decide) (digs_ok ha.1)
  have h2 := val_lt (b := 10) (by decide) (digs_ok hb.1)
  have n1 := val_nonneg (b := 10) (by decide) (digs_ok ha.1)
  have n2 := val_nonneg (b := 10) (by decide) (digs_ok hb.1)
  rw [digs_length, bytesOf_length] at h1 h2
  have hV : val 10 (digs (bytesOf a)) * val 10 (digs (bytesOf b)) < 10 ^ (a.size + b.size) := by
    rw [Int.pow_add]
    have p1 : (0 : Int) < 10 ^ a.size := Int.pow_pos (by decide)
    have p2 : (0 : Int) < 10 ^ b.size := Int.pow_pos (by decide)
    have h3 : val 10 (digs (bytesOf a)) * val 10 (digs (bytesOf b)) ≤ val 10 (digs (bytesOf a)) * 10 ^ b.size := Int.mul_le_mul_of_nonneg_left (Int.le_of_lt h2) n1
    have h4 := Int.mul_lt_mul_of_pos_right h1 p2
    omega
  obtain ⟨t, t1, t2, t3⟩ := rmul_l0 a b ha.1 hb.1 hs hV a.size 0 (List.replicate (a.size + b.size + 1) 0) (by omega) (by simp) (fun x hx => by rw [List.eq_of_mem_replicate hx]; decide) (by
    have := val_zeros (b := 10) [] (a.size + b.size + 1)
    rw [List.nil_append] at this
    rw [this, List.drop_zero]; simp [val])
  rw [ha.2.1, hb.2.1] at t2
  refine ⟨t, ?_, t2, t3⟩
  unfold gamehallref2_NatMul.f
  have e : wrap64 (wrap64 ((a.size : Int) + (b.size : Int)) + 1) = ((a.size + b.size + 1 : Nat) : Int) := by
    rw [wadd a.size b.size (by omega), w64s (by omega)]
  rw [e, Int.toNat_natCast]
  exact Ev.yes (by omega) (Ev.yes (by omega) t1)
theorem canon_size {t : ByteArray} {w : Int} (h : Canon t w) (n : Nat) (hn : 1 ≤ n) (hw : w < 10 ^ n) : t.size ≤ n := by
  by_cases hle : t.size ≤ n
  · exact hle
  · have hne : digs (bytesOf t) ≠ [] := fun z => by
      have := congrArg List.length z
      rw [digs_length, bytesOf_length, List.length_nil] at this
      omega
    have h1 := val_ge (b := 10) (by decide) (digs_ok h.1) (digs_noLead (h.2.2.2 (by omega))) hne
    rw [digs_length, bytesOf_length, h.2.1] at h1
    have h2 : (10 : Int) ^ n ≤ 10 ^ (t.size - 1) := pow_mono (by decide) (by omega)
    omega
theorem canon_lt {t : ByteArray} {w : Int} (h : Canon t w) (n : Nat) (hn : t.size ≤ n) : w < 10 ^ n := by
  have h1 := val_lt (b := 10) (by decide) (digs_ok h.1)
  rw [digs_length, bytesOf_length, h.2.1] at h1
  have h2 : (10 : Int) ^ t.size ≤ 10 ^ n := pow_mono (by decide) hn
  omega
end Go.Proofs.YtolikobhjmnedaaDoor.Pure
