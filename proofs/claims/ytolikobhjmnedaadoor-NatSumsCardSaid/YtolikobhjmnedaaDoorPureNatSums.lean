/- The pure statement of NatSums: Add and Sub against the reference's. -/
import Derived.Test.YtolikobhjmnedaaDoorNatRefCmp
set_option linter.unusedSimpArgs false
set_option linter.unusedVariables false
namespace Go.Proofs.YtolikobhjmnedaaDoor.Pure
open Go.RowKit Go.Proofs.YtolikobhjmnedaaDoor.GNS Go.Proofs.YtolikobhjmnedaaDoorW.PrintWords Go.Proofs.YtolikobhjmnedaaDoorW.PrintLast Go.Proofs.YtolikobhjmnedaaDoor.Aid Go.Proofs.YtolikobhjmnedaaDoor.NatVal

theorem digErr_zero : ∀ (l : List Int) (e : Int), digErr l e = 0 → asc l ∧ e = 0
  | [], e, h => ⟨fun c hc => by simp at hc, h⟩
  | c :: r, e, h => by
    simp only [digErr] at h
    split at h
    · omega
    · split at h
      · omega
      · obtain ⟨h1, h2⟩ := digErr_zero r e h
        exact ⟨asc_cons (by omega) h1, h2⟩
theorem canon_of {s : ByteArray} (h : natErr s = 0) : Canon s (val 10 (digs (bytesOf s))) ∧ s.size ≤ 2000 := by
  unfold natErr at h
  by_cases h0 : s.size = 0
  · rw [if_pos h0] at h; omega
  · rw [if_neg h0] at h
    obtain ⟨h1, h2⟩ := digErr_zero _ _ h
    by_cases h3 : 1 < s.size ∧ bt s 0 = 48
    · rw [if_pos h3] at h2; omega
    · rw [if_neg h3, tailErr] at h2
      refine ⟨⟨h1, rfl, by omega, fun h4 h5 => h3 ⟨h4, by rw [← rd_bytesOf]; exact h5⟩⟩, ?_⟩
      by_cases h6 : (s.size : Int) > 2000
      · rw [if_pos h6] at h2; omega
      · omega
/-- both numbers, read -/
theorem both_bad (a b : ByteArray) (ha : a.size ≤ 1000000000000000) (hb : b.size ≤ 1000000000000000) {p : Int} (hp : p ≠ 0) (h : natErr a = p ∨ natErr a = 0 ∧ natErr b = p) :
    Ev (fun k => nat_both.f k a b) ([], [], p) := by
  unfold nat_both.f
  refine Ev.bind1 (check_ev a ha) ?_
  rcases h with h | ⟨h1, h2⟩
  · rw [h]; exact Ev.no hp (Ev.now _)
  · rw [h1]
    refine Ev.yes rfl (Ev.bind1 (check_ev b hb) ?_)
    rw [h2]; exact Ev.no hp (Ev.now _)
theorem both_ok (a b : ByteArray) (ha : natErr a = 0) (hb : natErr b = 0) :
    ∃ x y, Ev (fun k => nat_both.f k a b) (x, y, 0) ∧ Limbs x (val 10 (digs (bytesOf a))) ∧ Limbs y (val 10 (digs (bytesOf b))) ∧ x.length ≤ 2000 ∧ y.length ≤ 2000 := by
  obtain ⟨ca, la⟩ := canon_of ha
  obtain ⟨cb, lb⟩ := canon_of hb
  obtain ⟨x, x1, x2, x3⟩ := read_ev a ca.1 (by omega)
  obtain ⟨y, y1, y2, y3⟩ := read_ev b cb.1 (by omega)
  refine ⟨x, y, ?_, x2, y2, by omega, by omega⟩
  unfold nat_both.f
  refine Ev.bind1 (check_ev a (by omega)) ?_
  rw [ha]
  refine Ev.yes rfl (Ev.bind1 (check_ev b (by omega)) ?_)
  rw [hb]
  exact Ev.yes rfl (Ev.bind1 x1 (Ev.bind1 y1 (Ev.now _)))
/-- a result's text, if it is not too long -/
def toldOf (t : ByteArray) : ByteArray × Int := if (t.size : Int) > 2000 then (⟨#[]⟩, 2) else (t, 0)
theorem told_ev {l : List Int} {v : Int} (h : Limbs l v) (hl : l.length ≤ 100000) : ∃ t, Ev (fun k => nat_told.f k l) (toldOf t) ∧ Canon t v ∧ t.size ≤ 9 * l.length + 1 := by
  obtain ⟨t, q1, q2, q3⟩ := text_ev h hl
  refine ⟨t, ?_, q2, q3⟩
  unfold nat_told.f toldOf
  refine Ev.bind1 q1 (Ev.ite (fun h => ?_) (fun h => ?_))
  · rw [if_pos h]; exact Ev.now _
  · rw [if_neg h]; exact Ev.now _
theorem nil_list : (⟨#[]⟩ : ByteArray).toList = ([] : List UInt8) := by rw [ByteArray.toList_eq]
theorem first_two (p q : Int) : Ev (fun k => gamehalllaw2_first.f k [p, q]) (if p = 0 then q else p) := by
  have e1 : wrap64 (0 + 1) = 1 := w64 (by decide) (by decide)
  have e2 : wrap64 (1 + 1) = 2 := w64 (by decide) (by decide)
  unfold gamehalllaw2_first.f
  refine Ev.step (fun k => gamehalllaw2_first.l0.eq_2 _ _ _ k) ?_
  refine Ev.yes (by simp) (Ev.yes (by simp) (Ev.yes (by simp) ?_))
  by_cases h : p = 0
  · rw [if_pos h, e1]
    refine Ev.yes (show rd [p, q] 0 = 0 from h) ?_
    refine Ev.step (fun k => gamehalllaw2_first.l0.eq_2 _ _ _ k) ?_
    refine Ev.yes (by simp) (Ev.yes (by simp) (Ev.yes (by simp) ?_))
    by_cases h2 : q = 0
    · rw [e2]
      refine Ev.yes (show rd [p, q] 1 = 0 from h2) ?_
      refine Ev.step (fun k => gamehalllaw2_first.l0.eq_2 _ _ _ k) ?_
      exact Ev.no (by simp) (Ev.now' h2.symm)
    · exact Ev.no (show ¬ rd [p, q] 1 = 0 from h2) (Ev.now' rfl)
  · rw [if_neg h]
    exact Ev.no (show ¬ rd [p, q] 0 = 0 from h) (Ev.now' rfl)
theorem size_of_list {s t : ByteArray} (h : s.toList = t.toList) : s.size = t.size := by
  have h1 : s.toList.length = s.size := by rw [ByteArray.toList_eq, data_length]
  have h2 : t.toList.length = t.size := by rw [ByteArray.toList_eq, data_length]
  rw [← h1, ← h2, h]
theorem told_natural {s t : ByteArray} (h : s.toList = t.toList) : ∃ w, gamehalllaw2_natural.f s = some (w, (toldOf t).2) ∧ (toldOf t).1.toList = w.toList := by
  have hs := size_of_list h
  unfold gamehalllaw2_natural.f toldOf
  by_cases h1 : (s.size : Int) > 2000
  · rw [if_pos h1, if_pos (by omega)]; exact ⟨_, rfl, rfl⟩
  · rw [if_neg h1, if_neg (by omega)]; exact ⟨_, rfl, h.symm⟩
theorem told_short {t : ByteArray} (h : t.size ≤ 2000) : toldOf t = (t, 0) := by
  unfold toldOf
  rw [if_neg (by omega)]
/-- what an operation of two numbers returns if one of them is none -/
theorem NatSums : gamehalllaw2_NatSums.Pure := by
  intro a b ha hb
  apply Ev.rounds
  unfold gamehalllaw2_NatSums.f
  refine Ev.bind1 fact_ev (Ev.yes rfl ?_)
  by_cases h : natErr a = 0 ∧ natErr b = 0
  · obtain ⟨h1, h2⟩ := h
    obtain ⟨x, y, e0, lx, ly, nx, ny⟩ := both_ok a b h1 h2
    obtain ⟨ca, la⟩ := canon_of h1
    obtain ⟨cb, lb⟩ := canon_of h2
    obtain ⟨r, r1, r2, r3⟩ := add_ev (a := x) (b := y) (by omega) (by omega) lx.2.1 ly.2.1 lx.2.2 ly.2.2
    rw [lx.1, ly.1] at r2
    obtain ⟨t, t1, t2, t3⟩ := told_ev r2 (by omega)
    have hadd : Ev (fun k => nat_Add.f k a b) (toldOf t) := by
      unfold nat_Add.f
      exact Ev.bind1 e0 (Ev.yes rfl (Ev.bind1 r1 (Ev.bind1 t1 (Ev.now _))))
    obtain ⟨s, s1, s2, s3⟩ := radd_ev ca cb (by omega) (by omega)
    obtain ⟨w, w1, w2⟩ := told_natural (canon_inj s2 t2)
    have hc := cmp_ev (l := x) (r := y) (by omega) lx.2.1 ly.2.1 lx.2.2 ly.2.2
    rw [lx.1, ly.1] at hc
    have hrc := rcmp_eq ca cb
    -- the rest of the law behind Add
    have tail : ∀ (z : ByteArray) (f : Int), (∀ x64 : Bool, x64 = false → Ev (fun k => gamehalllaw2_NatSums.j0 k a b z f x64) true) → Ev (fun k => nat_Sub.f k a b) (z, f) →
        Ev (fun k => (nat_Add.f k a b).bind fun bt412 => ((nat_Sub.f k a b).bind fun bt414 => ((gamehallref2_NatError.f k a).bind fun t416 => ((gamehallref2_NatError.f k b).bind fun t417 => ((gamehalllaw2_first.f k (([t416, t417] : List Int))).bind fun t421 => (if t421 = 0 then ((gamehallref2_NatAdd.f k a b).bind fun t422 => ((gamehalllaw2_natural.f t422).bind fun bt423 => (if bt412.2 = bt423.2 then (gamehalllaw2_NatSums.j0 k a b bt414.1 bt414.2 (bt412.1.toList != bt423.1.toList)) else (gamehalllaw2_NatSums.j0 k a b bt414.1 bt414.2 true)))) else (if bt412.2 = t421 then (if bt414.2 = t421 then (if bt412.1.toList = ([] : List UInt8) then (some (bt414.1.toList == ([] : List UInt8))) else (some false)) else (some false)) else (some false)))))))) true := by
      intro z f hj hsub
      refine Ev.bind1 hadd (Ev.bind1 hsub (Ev.bind1 (rerr_ev a (by omega)) (Ev.bind1 (rerr_ev b (by omega)) (Ev.bind1 (first_two _ _) ?_))))
      rw [h1, h2]
      refine Ev.yes rfl (Ev.bind1 s1 (Ev.opt_bind w1 (Ev.yes rfl (hj _ ?_))))
      simp [w2]
    by_cases hlt : val 10 (digs (bytesOf a)) < val 10 (digs (bytesOf b))
    · refine tail ⟨#[]⟩ 4 (fun x64 hx => ?_) ?_
      · refine Ev.step (fun k => gamehalllaw2_NatSums.j0.eq_2 _ _ _ _ _ k) ?_
        refine Ev.no (by simp [hx]) (Ev.opt_bind hrc (Ev.yes (by unfold cmpI; rw [if_pos hlt]; decide) (Ev.yes rfl (Ev.now' (by simp only [nil_list]; rfl)))))
      · unfold nat_Sub.f
        refine Ev.bind1 e0 (Ev.yes rfl (Ev.bind1 hc (Ev.yes (by unfold cmpI; rw [if_pos hlt]; decide) (Ev.now _))))
    · have hnc : ¬ cmpI (val 10 (digs (bytesOf a))) (val 10 (digs (bytesOf b))) < 0 := by
        unfold cmpI; rw [if_neg hlt]; split <;> omega
      obtain ⟨d, d1, d2, d3⟩ := sub_ev (a := x) (b := y) (by omega) lx.2.1 ly.2.1 ly.2.2 (by rw [lx.1, ly.1]; omega)
      rw [lx.1, ly.1] at d2
      obtain ⟨p, p1, p2, p3⟩ := told_ev d2 (by omega)
      obtain ⟨q, q1, q2, q3⟩ := rsub_ev ca cb (by omega) (by omega)
      have hle : p.size ≤ a.size := by
        by_cases h : p.size ≤ a.size
        · exact h
        · have hv0 : 0 ≤ val 10 (digs (bytesOf b)) := val_nonneg (by decide) (digs_ok cb.1)
          have := canon_len ca p2 (by omega)
          omega
      rw [told_short (by omega)] at p1
      refine tail p 0 (fun x64 hx => ?_) ?_
      · refine Ev.step (fun k => gamehalllaw2_NatSums.j0.eq_2 _ _ _ _ _ k) ?_
        refine Ev.no (by simp [hx]) (Ev.opt_bind hrc (Ev.no hnc (Ev.yes rfl (Ev.bind1 q1 (Ev.now' ?_)))))
        simp [canon_inj p2 q2]
      · unfold nat_Sub.f
        exact Ev.bind1 e0 (Ev.yes rfl (Ev.bind1 hc (Ev.no hnc (Ev.bind1 d1 (Ev.bind1 p1 (Ev.now _))))))
  · obtain ⟨p, hp, hw, hcase⟩ : ∃ p, p ≠ 0 ∧ (if natErr a = 0 then natErr b else natErr a) = p ∧ (natErr a = p ∨ natErr a = 0 ∧ natErr b = p) := by
      by_cases h1 : natErr a = 0
      · exact ⟨natErr b, fun h2 => h ⟨h1, h2⟩, by rw [if_pos h1], .inr ⟨h1, rfl⟩⟩
      · exact ⟨natErr a, h1, by rw [if_neg h1], .inl rfl⟩
    have hb' := both_bad a b (by omega) (by omega) hp hcase
    have h1 : Ev (fun k => nat_Add.f k a b) (⟨#[]⟩, p) := by
      unfold nat_Add.f
      exact Ev.bind1 hb' (Ev.no hp (Ev.now _))
    have h2 : Ev (fun k => nat_Sub.f k a b) (⟨#[]⟩, p) := by
      unfold nat_Sub.f
      exact Ev.bind1 hb' (Ev.no hp (Ev.now _))
    refine Ev.bind1 h1 (Ev.bind1 h2 (Ev.bind1 (rerr_ev a (by omega)) (Ev.bind1 (rerr_ev b (by omega)) (Ev.bind1 (first_two _ _) ?_))))
    rw [hw]
    exact Ev.no hp (Ev.yes rfl (Ev.yes rfl (Ev.yes nil_list (Ev.now' (by simp only [nil_list]; rfl)))))
end Go.Proofs.YtolikobhjmnedaaDoor.Pure
