/- The reference's NatAdd and NatCmp over canonical texts. -/
import Derived.Test.YtolikobhjmnedaaDoorNatRef
set_option linter.unusedSimpArgs false
set_option linter.unusedVariables false
namespace Go.Proofs.YtolikobhjmnedaaDoor.Pure
open Go.RowKit Go.Proofs.YtolikobhjmnedaaDoor.GNS Go.Proofs.YtolikobhjmnedaaDoorW.PrintWords Go.Proofs.YtolikobhjmnedaaDoorW.PrintLast Go.Proofs.YtolikobhjmnedaaDoor.Aid Go.Proofs.YtolikobhjmnedaaDoor.NatVal

theorem val_take' {b : Int} (l : List Int) (j : Nat) : val b (l.take (j + 1)) = val b (l.take j) + b ^ j * rd l (j : Int) := by
  by_cases h : j < l.length
  · exact val_take l j h
  · rw [take_len_val l j (by omega), rd_out l j (by omega)]; simp
theorem ok_rd' {b : Int} {l : List Int} (hb : 0 < b) (h : ok b l) (j : Nat) : 0 ≤ rd l (j : Int) ∧ rd l (j : Int) < b := by
  by_cases hj : j < l.length
  · exact ok_rd h j hj
  · rw [rd_out l j (by omega)]; omega
theorem radd_l0 (a b : ByteArray) (ha : asc (bytesOf a)) (hb : asc (bytesOf b)) (hsa : a.size ≤ 100000) (hsb : b.size ≤ 100000) (d : Nat) :
    ∀ (j : Nat) (out : List Int) (c : Int), j + d = max a.size b.size + 1 → out.length = j → ok 10 out → 0 ≤ c → c ≤ 1 → (d = 0 → c = 0) →
      val 10 out + 10 ^ j * c = val 10 ((digs (bytesOf a)).take j) + val 10 ((digs (bytesOf b)).take j) →
      ∃ t, Ev (fun k => gamehallref2_NatAdd.l0 k a b out c (j : Int)) t ∧ Canon t (val 10 (digs (bytesOf a)) + val 10 (digs (bytesOf b))) ∧ t.size ≤ 100010 := by
  have la : (digs (bytesOf a)).length = a.size := by rw [digs_length, bytesOf_length]
  have lb : (digs (bytesOf b)).length = b.size := by rw [digs_length, bytesOf_length]
  have fin : ∀ (j : Nat) (out : List Int), a.size ≤ j → b.size ≤ j → j ≤ 100001 → out.length = j → ok 10 out → val 10 out + 10 ^ j * 0 = val 10 ((digs (bytesOf a)).take j) + val 10 ((digs (bytesOf b)).take j) →
      ∃ t, Ev (fun k => gamehallref2_NatAdd.l0 k a b out 0 (j : Int)) t ∧ Canon t (val 10 (digs (bytesOf a)) + val 10 (digs (bytesOf b))) ∧ t.size ≤ 100010 := by
    intro j out h1 h2 h3 ho hok hv
    rw [List.take_of_length_le (by omega), List.take_of_length_le (by omega), Int.mul_zero, Int.add_zero] at hv
    obtain ⟨t, q1, q2, q3⟩ := rtext_ev out (by omega) hok
    rw [hv] at q2
    refine ⟨t, ?_, q2, by omega⟩
    refine Ev.step (fun k => gamehallref2_NatAdd.l0.eq_2 _ _ _ _ _ k) ?_
    refine Ev.no (by omega) (Ev.no (by omega) ?_)
    refine Ev.step (fun k => gamehallref2_NatAdd.j1.eq_2 _ _ _ _ _ _ k) ?_
    exact Ev.no (by simp) (Ev.bind1 q1 (Ev.now _))
  induction d with
  | zero =>
    intro j out c hj ho hok hc0 hc1 hz hv
    obtain rfl := hz rfl
    exact fin j out (by omega) (by omega) (by omega) ho hok hv
  | succ d ih =>
    intro j out c hj ho hok hc0 hc1 hz hv
    have hx := ok_rd' (b := 10) (by decide) (digs_ok ha) j
    have hy := ok_rd' (b := 10) (by decide) (digs_ok hb) j
    obtain ⟨x, hxe⟩ : ∃ x, x = rd (digs (bytesOf a)) (j : Int) := ⟨_, rfl⟩
    obtain ⟨y, hye⟩ : ∃ y, y = rd (digs (bytesOf b)) (j : Int) := ⟨_, rfl⟩
    rw [← hxe] at hx
    rw [← hye] at hy
    have onward : ∃ t, Ev (fun k => gamehallref2_NatAdd.j1 k a b out c (j : Int) true) t ∧ Canon t (val 10 (digs (bytesOf a)) + val 10 (digs (bytesOf b))) ∧ t.size ≤ 100010 := by
      have e1 : Int.tmod (wrap64 (wrap64 (x + y) + c)) 10 = (x + y + c) % 10 := by
        rw [w64 (i := x + y) (by omega) (by omega), w64 (by omega) (by omega), Int.tmod_eq_emod_of_nonneg (by omega)]
      have e2 : wrap64 (Int.tdiv (wrap64 (wrap64 (x + y) + c)) 10) = (x + y + c) / 10 := by
        rw [w64 (i := x + y) (by omega) (by omega), w64 (i := x + y + c) (by omega) (by omega), Int.tdiv_eq_ediv_of_nonneg (by omega), w64 (by omega) (by omega)]
      obtain ⟨t, q1, q2, q3⟩ := ih (j + 1) (out ++ [(x + y + c) % 10]) ((x + y + c) / 10) (by omega) (by simp; omega) (by
          rw [ok_append, ok_cons]; exact ⟨hok, ⟨by omega, by omega⟩, ok_nil _⟩) (by omega) (by omega) (by
          intro hd0
          have : x = 0 := by rw [hxe, rd_out _ _ (by omega)]
          have : y = 0 := by rw [hye, rd_out _ _ (by omega)]
          omega) (by
          rw [val_snoc, ho, val_take', val_take', ← hxe, ← hye, Int.pow_succ, Int.mul_assoc, Int.add_assoc, ← Int.mul_add, show (x + y + c) % 10 + 10 * ((x + y + c) / 10) = x + y + c by omega, Int.mul_add, Int.mul_add]
          omega)
      refine ⟨t, ?_, q2, q3⟩
      refine Ev.step (fun k => gamehallref2_NatAdd.j1.eq_2 _ _ _ _ _ _ k) ?_
      refine Ev.yes rfl (Ev.opt_bind (digit_eq a ha (by omega) j (by omega)) (Ev.opt_bind (digit_eq b hb (by omega) j (by omega)) (Ev.yes (by omega) ?_)))
      rw [← hxe, ← hye, e1, e2, w64s (by omega)]
      exact q1
    by_cases h1 : (j : Int) < (a.size : Int)
    · obtain ⟨t, q1, q2⟩ := onward
      refine ⟨t, ?_, q2⟩
      refine Ev.step (fun k => gamehallref2_NatAdd.l0.eq_2 _ _ _ _ _ k) ?_
      exact Ev.yes h1 q1
    · by_cases h2 : (j : Int) < (b.size : Int)
      · obtain ⟨t, q1, q2⟩ := onward
        refine ⟨t, ?_, q2⟩
        refine Ev.step (fun k => gamehallref2_NatAdd.l0.eq_2 _ _ _ _ _ k) ?_
        exact Ev.no h1 (Ev.yes h2 q1)
      · by_cases hc : c > 0
        · obtain ⟨t, q1, q2⟩ := onward
          refine ⟨t, ?_, q2⟩
          refine Ev.step (fun k => gamehallref2_NatAdd.l0.eq_2 _ _ _ _ _ k) ?_
          refine Ev.no h1 (Ev.no h2 ?_)
          rw [show decide (c > 0) = true by simpa using hc]
          exact q1
        · obtain rfl : c = 0 := by omega
          exact fin j out (by omega) (by omega) (by omega) ho hok hv
theorem radd_ev {a b : ByteArray} {u v : Int} (ha : Canon a u) (hb : Canon b v) (hsa : a.size ≤ 100000) (hsb : b.size ≤ 100000) :
    ∃ t, Ev (fun k => gamehallref2_NatAdd.f k a b) t ∧ Canon t (u + v) ∧ t.size ≤ 100010 := by
  obtain ⟨t, q1, q2, q3⟩ := radd_l0 a b ha.1 hb.1 hsa hsb (max a.size b.size + 1) 0 [] 0 (by omega) rfl (ok_nil _) (by omega) (by omega) (fun _ => rfl) (by simp [val])
  rw [ha.2.1, hb.2.1] at q2
  exact ⟨t, q1, q2, q3⟩
end Go.Proofs.YtolikobhjmnedaaDoor.Pure
