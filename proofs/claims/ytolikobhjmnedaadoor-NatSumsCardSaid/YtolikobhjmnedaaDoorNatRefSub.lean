/- The reference's NatSub and NatCmp over canonical texts. -/
import Derived.Test.YtolikobhjmnedaaDoorNatRefAdd
set_option linter.unusedSimpArgs false
set_option linter.unusedVariables false
namespace Go.Proofs.YtolikobhjmnedaaDoor.Pure
open Go.RowKit Go.Proofs.YtolikobhjmnedaaDoor.GNS Go.Proofs.YtolikobhjmnedaaDoorW.PrintWords Go.Proofs.YtolikobhjmnedaaDoorW.PrintLast Go.Proofs.YtolikobhjmnedaaDoor.Aid Go.Proofs.YtolikobhjmnedaaDoor.NatVal

theorem rsub_l0 (a b : ByteArray) (ha : asc (bytesOf a)) (hb : asc (bytesOf b)) (hsa : a.size ≤ 100000) (hle : b.size ≤ a.size) (hge : val 10 (digs (bytesOf b)) ≤ val 10 (digs (bytesOf a))) (d : Nat) :
    ∀ (j : Nat) (out : List Int) (c : Int), j + d = a.size → out.length = j → ok 10 out → 0 ≤ c → c ≤ 1 →
      val 10 out - 10 ^ j * c = val 10 ((digs (bytesOf a)).take j) - val 10 ((digs (bytesOf b)).take j) →
      ∃ t, Ev (fun k => gamehallref2_NatSub.l0 k a b out c (a.size : Int) (j : Int)) t ∧ Canon t (val 10 (digs (bytesOf a)) - val 10 (digs (bytesOf b))) ∧ t.size ≤ 100010 := by
  have la : (digs (bytesOf a)).length = a.size := by rw [digs_length, bytesOf_length]
  have lb : (digs (bytesOf b)).length = b.size := by rw [digs_length, bytesOf_length]
  induction d with
  | zero =>
    intro j out c hj ho hok hc0 hc1 hv
    rw [List.take_of_length_le (by omega), List.take_of_length_le (by omega)] at hv
    have hlt := val_lt (b := 10) (by decide) hok
    rw [ho] at hlt
    have hc : c = 0 := by
      by_cases h : c = 0
      · exact h
      · rw [show c = 1 by omega, Int.mul_one] at hv
        omega
    rw [hc, Int.mul_zero, Int.sub_zero] at hv
    obtain ⟨t, q1, q2, q3⟩ := rtext_ev out (by omega) hok
    rw [hv] at q2
    refine ⟨t, ?_, q2, by omega⟩
    refine Ev.step (fun k => gamehallref2_NatSub.l0.eq_2 _ _ _ _ _ _ k) ?_
    exact Ev.no (by omega) (Ev.bind1 q1 (Ev.now _))
  | succ d ih =>
    intro j out c hj ho hok hc0 hc1 hv
    have hx := ok_rd' (b := 10) (by decide) (digs_ok ha) j
    have hy := ok_rd' (b := 10) (by decide) (digs_ok hb) j
    obtain ⟨x, hxe⟩ : ∃ x, x = rd (digs (bytesOf a)) (j : Int) := ⟨_, rfl⟩
    obtain ⟨y, hye⟩ : ∃ y, y = rd (digs (bytesOf b)) (j : Int) := ⟨_, rfl⟩
    rw [← hxe] at hx
    rw [← hye] at hy
    have e1 : wrap64 (wrap64 (x - y) - c) = x - y - c := by rw [w64 (i := x - y) (by omega) (by omega), w64 (by omega) (by omega)]
    have e2 : wrap64 (x - y - c + 10) = x - y - c + 10 := w64 (by omega) (by omega)
    have go : ∀ v c' : Int, 0 ≤ v → v < 10 → 0 ≤ c' → c' ≤ 1 → v - 10 * c' = x - y - c →
        ∃ t, Ev (fun k => gamehallref2_NatSub.l0 k a b (out ++ [v]) c' (a.size : Int) (wrap64 ((j : Int) + 1))) t ∧ Canon t (val 10 (digs (bytesOf a)) - val 10 (digs (bytesOf b))) ∧ t.size ≤ 100010 := by
      intro v c' hv0 hv1 hc'0 hc'1 hvc
      rw [w64s (by omega)]
      refine ih (j + 1) _ _ (by omega) (by simp; omega) (by rw [ok_append, ok_cons]; exact ⟨hok, ⟨hv0, hv1⟩, ok_nil _⟩) hc'0 hc'1 ?_
      have h1 : (10 : Int) ^ j * (v - 10 * c') = 10 ^ j * (x - y - c) := by rw [hvc]
      rw [val_snoc, ho, val_take', val_take', ← hxe, ← hye, Int.pow_succ, Int.mul_assoc]
      rw [Int.mul_sub, Int.mul_sub, Int.mul_sub] at h1
      omega
    by_cases hneg : x - y - c < 0
    · obtain ⟨t, q1, q2, q3⟩ := go (x - y - c + 10) 1 (by omega) (by omega) (by omega) (by omega) (by omega)
      refine ⟨t, ?_, q2, q3⟩
      refine Ev.step (fun k => gamehallref2_NatSub.l0.eq_2 _ _ _ _ _ _ k) ?_
      refine Ev.yes (by omega) (Ev.opt_bind (digit_eq a ha (by omega) j (by omega)) (Ev.opt_bind (digit_eq b hb (by omega) j (by omega)) ?_))
      rw [← hxe, ← hye, e1, e2]
      exact Ev.yes hneg (Ev.yes (by omega) q1)
    · obtain ⟨t, q1, q2, q3⟩ := go (x - y - c) 0 (by omega) (by omega) (by omega) (by omega) (by omega)
      refine ⟨t, ?_, q2, q3⟩
      refine Ev.step (fun k => gamehallref2_NatSub.l0.eq_2 _ _ _ _ _ _ k) ?_
      refine Ev.yes (by omega) (Ev.opt_bind (digit_eq a ha (by omega) j (by omega)) (Ev.opt_bind (digit_eq b hb (by omega) j (by omega)) ?_))
      rw [← hxe, ← hye, e1]
      exact Ev.no hneg (Ev.yes (by omega) q1)
theorem canon_len {a b : ByteArray} {u v : Int} (ha : Canon a u) (hb : Canon b v) (h : a.size < b.size) : u < v := by
  obtain ⟨h1, h2, h3, h4⟩ := ha
  have g1 := val_lt (b := 10) (by decide) (digs_ok h1)
  rw [digs_length, bytesOf_length, h2] at g1
  have hbs : 1 < b.size := by omega
  have hne : digs (bytesOf b) ≠ [] := fun z => by
    have := congrArg List.length z
    rw [digs_length, bytesOf_length, List.length_nil] at this
    omega
  have g2 := val_ge (b := 10) (by decide) (digs_ok hb.1) (digs_noLead (hb.2.2.2 hbs)) hne
  rw [digs_length, bytesOf_length, hb.2.1] at g2
  have g3 : (10 : Int) ^ a.size ≤ 10 ^ (b.size - 1) := pow_mono (by decide) (by omega)
  omega
theorem rsub_ev {a b : ByteArray} {u v : Int} (ha : Canon a u) (hb : Canon b v) (hsa : a.size ≤ 100000) (hge : v ≤ u) :
    ∃ t, Ev (fun k => gamehallref2_NatSub.f k a b) t ∧ Canon t (u - v) ∧ t.size ≤ 100010 := by
  have hle : b.size ≤ a.size := by
    by_cases h : b.size ≤ a.size
    · exact h
    · have := canon_len ha hb (by omega); omega
  obtain ⟨t, q1, q2, q3⟩ := rsub_l0 a b ha.1 hb.1 hsa hle (by rw [ha.2.1, hb.2.1]; exact hge) a.size 0 [] 0 (by omega) rfl (ok_nil _) (by omega) (by omega) (by simp [val])
  rw [ha.2.1, hb.2.1] at q2
  exact ⟨t, q1, q2, q3⟩
end Go.Proofs.YtolikobhjmnedaaDoor.Pure
