/- Both numbers read, results told: what package nat's operations on texts share. -/
import Derived.Test.YtolikobhjmnedaaDoorNatRef
set_option linter.unusedSimpArgs false
set_option linter.unusedVariables false
namespace Go.Proofs.YtolikobhjmnedaaDoor.Pure
open Go.RowKit Go.Proofs.YtolikobhjmnedaaDoor.GN Go.Proofs.YtolikobhjmnedaaDoorW.PrintWords Go.Proofs.YtolikobhjmnedaaDoorW.PrintLast Go.Proofs.YtolikobhjmnedaaDoor.Aid Go.Proofs.YtolikobhjmnedaaDoor.NatVal

theorem digErr_zero : ∀ (l : List Int) (e : Int), digErr l e = 0 → asc l ∧ e = 0
  | [], e, h => ⟨fun c hc => by simp at hc, h⟩
  | c :: r, e, h => by
    simp only [digErr] at h
    split at h
    · omega
    · split at h
      · omega
      · obtain ⟨h1, h2⟩ := digErr_zero r e h
        exact ⟨asc_cons (by omega) h1, h2⟩
theorem canon_of {s : ByteArray} (h : natErr s = 0) : Canon s (val 10 (digs (bytesOf s))) ∧ s.size ≤ 2000 := by
  unfold natErr at h
  by_cases h0 : s.size = 0
  · rw [if_pos h0] at h; omega
  · rw [if_neg h0] at h
    obtain ⟨h1, h2⟩ := digErr_zero _ _ h
    by_cases h3 : 1 < s.size ∧ bt s 0 = 48
    · rw [if_pos h3] at h2; omega
    · rw [if_neg h3, tailErr] at h2
      refine ⟨⟨h1, rfl, by omega, fun h4 h5 => h3 ⟨h4, by rw [← rd_bytesOf]; exact h5⟩⟩, ?_⟩
      by_cases h6 : (s.size : Int) > 2000
      · rw [if_pos h6] at h2; omega
      · omega
/-- both numbers, read -/
theorem both_bad (a b : ByteArray) (ha : a.size ≤ 1000000000000000) (hb : b.size ≤ 1000000000000000) {p : Int} (hp : p ≠ 0) (h : natErr a = p ∨ natErr a = 0 ∧ natErr b = p) :
    Ev (fun k => nat_both.f k a b) ([], [], p) := by
  unfold nat_both.f
  refine Ev.bind1 (check_ev a ha) ?_
  rcases h with h | ⟨h1, h2⟩
  · rw [h]; exact Ev.no hp (Ev.now _)
  · rw [h1]
    refine Ev.yes rfl (Ev.bind1 (check_ev b hb) ?_)
    rw [h2]; exact Ev.no hp (Ev.now _)
theorem both_ok (a b : ByteArray) (ha : natErr a = 0) (hb : natErr b = 0) :
    ∃ x y, Ev (fun k => nat_both.f k a b) (x, y, 0) ∧ Limbs x (val 10 (digs (bytesOf a))) ∧ Limbs y (val 10 (digs (bytesOf b))) ∧ x.length ≤ 2000 ∧ y.length ≤ 2000 := by
  obtain ⟨ca, la⟩ := canon_of ha
  obtain ⟨cb, lb⟩ := canon_of hb
  obtain ⟨x, x1, x2, x3⟩ := read_ev a ca.1 (by omega)
  obtain ⟨y, y1, y2, y3⟩ := read_ev b cb.1 (by omega)
  refine ⟨x, y, ?_, x2, y2, by omega, by omega⟩
  unfold nat_both.f
  refine Ev.bind1 (check_ev a (by omega)) ?_
  rw [ha]
  refine Ev.yes rfl (Ev.bind1 (check_ev b (by omega)) ?_)
  rw [hb]
  exact Ev.yes rfl (Ev.bind1 x1 (Ev.bind1 y1 (Ev.now _)))
/-- a result's text, if it is not too long -/
def toldOf (t : ByteArray) : ByteArray × Int := if (t.size : Int) > 2000 then (⟨#[]⟩, 2) else (t, 0)
theorem told_ev {l : List Int} {v : Int} (h : Limbs l v) (hl : l.length ≤ 100000) : ∃ t, Ev (fun k => nat_told.f k l) (toldOf t) ∧ Canon t v ∧ t.size ≤ 9 * l.length + 1 := by
  obtain ⟨t, q1, q2, q3⟩ := text_ev h hl
  refine ⟨t, ?_, q2, q3⟩
  unfold nat_told.f toldOf
  refine Ev.bind1 q1 (Ev.ite (fun h => ?_) (fun h => ?_))
  · rw [if_pos h]; exact Ev.now _
  · rw [if_neg h]; exact Ev.now _
theorem nil_list : (⟨#[]⟩ : ByteArray).toList = ([] : List UInt8) := by rw [ByteArray.toList_eq]
theorem first_two (p q : Int) : Ev (fun k => gamehalllaw2_first.f k [p, q]) (if p = 0 then q else p) := by
  have e1 : wrap64 (0 + 1) = 1 := w64 (by decide) (by decide)
  have e2 : wrap64 (1 + 1) = 2 := w64 (by decide) (by decide)
  unfold gamehalllaw2_first.f
  refine Ev.step (fun k => gamehalllaw2_first.l0.eq_2 _ _ _ k) ?_
  refine Ev.yes (by simp) (Ev.yes (by simp) (Ev.yes (by simp) ?_))
  by_cases h : p = 0
  · rw [if_pos h, e1]
    refine Ev.yes (show rd [p, q] 0 = 0 from h) ?_
    refine Ev.step (fun k => gamehalllaw2_first.l0.eq_2 _ _ _ k) ?_
    refine Ev.yes (by simp) (Ev.yes (by simp) (Ev.yes (by simp) ?_))
    by_cases h2 : q = 0
    · rw [e2]
      refine Ev.yes (show rd [p, q] 1 = 0 from h2) ?_
      refine Ev.step (fun k => gamehalllaw2_first.l0.eq_2 _ _ _ k) ?_
      exact Ev.no (by simp) (Ev.now' h2.symm)
    · exact Ev.no (show ¬ rd [p, q] 1 = 0 from h2) (Ev.now' rfl)
  · rw [if_neg h]
    exact Ev.no (show ¬ rd [p, q] 0 = 0 from h) (Ev.now' rfl)
theorem size_of_list {s t : ByteArray} (h : s.toList = t.toList) : s.size = t.size := by
  have h1 : s.toList.length = s.size := by rw [ByteArray.toList_eq, data_length]
  have h2 : t.toList.length = t.size := by rw [ByteArray.toList_eq, data_length]
  rw [← h1, ← h2, h]
theorem told_natural {s t : ByteArray} (h : s.toList = t.toList) : ∃ w, gamehalllaw2_natural.f s = some (w, (toldOf t).2) ∧ (toldOf t).1.toList = w.toList := by
  have hs := size_of_list h
  unfold gamehalllaw2_natural.f toldOf
  by_cases h1 : (s.size : Int) > 2000
  · rw [if_pos h1, if_pos (by omega)]; exact ⟨_, rfl, rfl⟩
  · rw [if_neg h1, if_neg (by omega)]; exact ⟨_, rfl, h.symm⟩
theorem told_short {t : ByteArray} (h : t.size ≤ 2000) : toldOf t = (t, 0) := by
  unfold toldOf
  rw [if_neg (by omega)]
end Go.Proofs.YtolikobhjmnedaaDoor.Pure
