/- For every list of cells and every list of counts, the checks and the counts of package index are those of the reference, and the number of placements is the length of the reference's list, for at most 7 squares. Conditions: none. -/
import Derived.Test.YtejcniaepjahbaaIndexPlaces
set_option linter.unusedSimpArgs false
namespace Go.Proofs.Ytejcniaepjahbaa.Pure
open Go.RowKit Go.Proofs.Ytejcniaepjahbaa.GIC Go.Proofs.YtejcniaepjahbaaW.PrintWords Go.Proofs.YtejcniaepjahbaaW.PrintLast Go.Proofs.Ytejcniaepjahbaa.Aid

theorem toNats (l : List Int) (h : ∀ x ∈ l, 0 ≤ x) : ∃ L : List Nat, l = L.map (fun (n : Nat) => (n : Int)) ∧ L.length = l.length ∧ (L.sum : Int) = l.sum := by
  induction l with
  | nil => exact ⟨[], rfl, rfl, rfl⟩
  | cons x r ih =>
    obtain ⟨L, h1, h2, h3⟩ := ih (fun y hy => h y (by simp [hy]))
    have := h x (by simp)
    exact ⟨x.toNat :: L, by simp [h1]; omega, by simp [h2], by simp only [List.sum_cons]; omega⟩
theorem law_l2a (l : List Int) (hl : l.length ≤ 100000000000000) (x7 x10 : Int) (hx : ¬ x10 = 0) (d : Nat) : ∀ (j : Nat) (a : Int), j + d = l.length → Ev (fun k => gamehalllaw2_IndexCounts.l2 k l x7 x10 a l (l.length : Int) (j : Int)) true := by
  induction d with
  | zero =>
    intro j a hj
    refine Ev.step (fun k => gamehalllaw2_IndexCounts.l2.eq_2 _ _ _ _ _ _ _ k) ?_
    exact Ev.no (by omega) (Ev.no hx (Ev.now _))
  | succ d ih =>
    intro j a hj
    refine Ev.step (fun k => gamehalllaw2_IndexCounts.l2.eq_2 _ _ _ _ _ _ _ k) ?_
    refine Ev.yes (by omega) (Ev.yes (by omega) (Ev.yes (by omega) (Ev.no hx ?_)))
    rw [w64s (by omega)]
    exact ih (j + 1) a (by omega)
theorem law_l2b (l : List Int) (hl : l.length ≤ 7) (hpos : ∀ x ∈ l, 0 ≤ x) (hs : l.sum ≤ 16) (x7 : Int) (h : ¬ l.sum > 7 → Ev (fun k => (gamehallref2_Placements.f k l).bind fun t => some (x7 == (t.length : Int))) true) (d : Nat) : ∀ (j : Nat) (a : Int), j + d = l.length → 0 ≤ a → a + (l.drop j).sum = l.sum → Ev (fun k => gamehalllaw2_IndexCounts.l2 k l x7 0 a l (l.length : Int) (j : Int)) true := by
  induction d with
  | zero =>
    intro j a hj h0 ha
    refine Ev.step (fun k => gamehalllaw2_IndexCounts.l2.eq_2 _ _ _ _ _ _ _ k) ?_
    rw [show j = l.length by omega, List.drop_length, List.sum_nil, Int.add_zero] at ha
    subst ha
    exact Ev.no (by omega) (Ev.yes rfl (Ev.ite (fun _ => Ev.now _) h))
  | succ d ih =>
    intro j a hj h0 ha
    have hlt : j < l.length := by omega
    rw [sum_drop l j hlt] at ha
    have hx := hpos _ (mem_rd l j hlt)
    have hd := sum_nonneg _ (mem_drop_nonneg hpos (j + 1))
    refine Ev.step (fun k => gamehalllaw2_IndexCounts.l2.eq_2 _ _ _ _ _ _ _ k) ?_
    refine Ev.yes (by omega) (Ev.yes (by omega) (Ev.yes (by omega) (Ev.yes rfl ?_)))
    rw [w64s (by omega), w64 (by omega) (by omega)]
    exact ih (j + 1) _ (by omega) (by omega) (by omega)
theorem law_l1 (cells l c : List Int) (x7 x10 : Int) (i : Nat) (hc : cells.length ≤ 16) (hn : Ev (fun k => gamehalllaw2_IndexCounts.l0 k cells l x7 x10 c (c.length : Int) (wrap64 ((i : Int) + 1))) true) (d : Nat) : ∀ (j : Nat) (m : Int), j + d = cells.length → m = ((cells.drop j).count (i : Int) : Int) →
    Ev (fun k => gamehalllaw2_IndexCounts.l1 k cells l x7 x10 (i : Int) m c (c.length : Int) (i : Int) cells (cells.length : Int) (j : Int)) true := by
  induction d with
  | zero =>
    intro j m hj hm
    refine Ev.step (fun k => gamehalllaw2_IndexCounts.l1.eq_2 _ _ _ _ _ _ _ _ _ _ _ _ k) ?_
    refine Ev.no (by omega) (Ev.yes ?_ hn)
    rw [hm, show j = cells.length by omega, List.drop_length]; rfl
  | succ d ih =>
    intro j m hj hm
    have hlt : j < cells.length := by omega
    rw [drop_rd cells j hlt, List.count_cons] at hm
    have hb : (cells.drop (j + 1)).count (i : Int) ≤ 16 := Nat.le_trans List.count_le_length (by simp; omega)
    refine Ev.step (fun k => gamehalllaw2_IndexCounts.l1.eq_2 _ _ _ _ _ _ _ _ _ _ _ _ k) ?_
    refine Ev.yes (by omega) (Ev.yes (by omega) (Ev.yes (by omega) (Ev.ite (fun h => ?_) (fun h => ?_))))
    · simp only [h, beq_self_eq_true, if_true] at hm
      rw [w64s (by omega), w64 (by omega) (by omega)]
      exact ih (j + 1) _ (by omega) (by omega)
    · rw [if_neg (by simpa using h), Nat.add_zero] at hm
      rw [w64s (by omega)]
      exact ih (j + 1) _ (by omega) hm
theorem law_l0 (cells l c : List Int) (x7 x10 : Int) (hc : cells.length ≤ 16) (h7 : c.length = 7) (hcnt : ∀ i : Nat, i < 7 → rd c (i : Int) = (cells.count (i : Int) : Int)) (hn : Ev (fun k => gamehalllaw2_IndexCounts.j4 k l x7 x10) true) (d : Nat) : ∀ (i : Nat), i + d = 7 → Ev (fun k => gamehalllaw2_IndexCounts.l0 k cells l x7 x10 c (c.length : Int) (i : Int)) true := by
  induction d with
  | zero =>
    intro i hi
    refine Ev.step (fun k => gamehalllaw2_IndexCounts.l0.eq_2 _ _ _ _ _ _ _ k) ?_
    exact Ev.no (by omega) hn
  | succ d ih =>
    intro i hi
    refine Ev.step (fun k => gamehalllaw2_IndexCounts.l0.eq_2 _ _ _ _ _ _ _ k) ?_
    refine Ev.yes (by omega) (Ev.yes (by omega) (Ev.yes (by omega) ?_))
    refine law_l1 cells l c x7 x10 i hc ?_ cells.length 0 _ (Nat.zero_add _) (by rw [List.drop_zero]; exact hcnt i (by omega))
    rw [w64s (by omega)]
    exact ih (i + 1) (by omega)
theorem law_j4 (l : List Int) (hl : l.length ≤ 100000000000000) (x7 : Int) (h7 : chkcAll l = 0 → ∀ L : List Nat, l = L.map (fun (n : Nat) => (n : Int)) → x7 = ((ways 0 1 L : Nat) : Int)) : Ev (fun k => gamehalllaw2_IndexCounts.j4 k l x7 (chkcAll l)) true := by
  refine Ev.step (fun k => gamehalllaw2_IndexCounts.j4.eq_2 _ _ _ k) ?_
  by_cases h : chkcAll l = 0
  · obtain ⟨h1, h2, h3⟩ := chkcAll_zero h
    have hpos : ∀ x ∈ l, 0 ≤ x := fun x hx => (h2 x hx).1
    rw [h]
    refine law_l2b l (by omega) hpos h3 x7 (fun hs => ?_) l.length 0 0 (by omega) (by omega) (by simp)
    obtain ⟨L, e1, e2, e3⟩ := toNats l hpos
    refine Ev.bind1 (places_ev L.sum (by omega) l (by omega) hpos (by omega)) (Ev.now' ?_)
    have e4 := pl_ways L
    rw [← e1] at e4
    rw [h7 h L e1, e4]
    simp
  · exact law_l2a l hl x7 _ h l.length 0 0 (by omega)
theorem Counts_ev (l : List Int) (hl : l.length ≤ 100000000000000) : ∃ c, Ev (fun k => index_Counts.f k l) (c, chkAll l) ∧ (¬ chkAll l = 0 → c = []) ∧ (chkAll l = 0 → c.length = 7 ∧ ∀ i : Nat, i < 7 → rd c (i : Int) = (l.count (i : Int) : Int)) := by
  by_cases h : chkAll l = 0
  · obtain ⟨h1, h2⟩ := chkAll_zero h
    obtain ⟨c, hc, h3, h4⟩ := counts_ev l h1 h2
    refine ⟨c, ?_, fun h' => absurd h h', fun _ => ⟨h3, h4⟩⟩
    unfold index_Counts.f
    refine Ev.bind1 (check_ev l hl) (Ev.yes h (Ev.bind1 hc (Ev.now' (by rw [h]))))
  · refine ⟨[], ?_, fun _ => rfl, fun h' => absurd h' h⟩
    unfold index_Counts.f
    exact Ev.bind1 (check_ev l hl) (Ev.no h (Ev.now _))
theorem Count_ev (l : List Int) : ∃ n, Ev (fun k => index_Count.f k l) (n, chkcAll l) ∧ (¬ chkcAll l = 0 → n = 0) ∧ (chkcAll l = 0 → ∀ L : List Nat, l = L.map (fun (n : Nat) => (n : Int)) → n = ((ways 0 1 L : Nat) : Int)) := by
  by_cases h : chkcAll l = 0
  · obtain ⟨h1, h2, h3⟩ := chkcAll_zero h
    obtain ⟨L, e1, e2, e3⟩ := toNats l (fun x hx => (h2 x hx).1)
    have hm := many_ev L (by omega) (by omega)
    rw [← e1] at hm
    refine ⟨((ways 0 1 L : Nat) : Int), ?_, fun h' => absurd h h', fun _ L' e' => ?_⟩
    · unfold index_Count.f
      exact Ev.bind1 (ccheck_ev l) (Ev.yes h (Ev.bind1 hm (Ev.now' (by rw [h]))))
    · have : L' = L := by
        rw [e1] at e'
        exact (List.map_inj_right (fun a b h => Int.ofNat.inj h)).1 e'.symm
      rw [this]
  · refine ⟨0, ?_, fun _ => rfl, fun h' => absurd h' h⟩
    unfold index_Count.f
    exact Ev.bind1 (ccheck_ev l) (Ev.no h (Ev.now _))
theorem IndexCounts : gamehalllaw2_IndexCounts.Pure := by
  intro cells l hm0 hb0 hw0 hm1 hb1 hw1
  have hl0 : cells.length ≤ 100000000000000 := by omega
  have hl1 : l.length ≤ 100000000000000 := by omega
  obtain ⟨c, hc, hc1, hc2⟩ := Counts_ev cells hl0
  obtain ⟨n, hn, hn1, hn2⟩ := Count_ev l
  apply Ev.rounds
  unfold gamehalllaw2_IndexCounts.f
  refine Ev.bind1 fact_ev (Ev.yes rfl ?_)
  refine Ev.bind1 hc (Ev.bind1 hn (Ev.bind1 (cells_ev cells hl0) (Ev.bind1 (rcounts_ev l) (Ev.bind1 (check_ev cells hl0) (Ev.yes rfl (Ev.bind1 (ccheck_ev l) (Ev.yes rfl (Ev.yes rfl ?_))))))))
  have j4 := law_j4 l hl1 n hn2
  refine Ev.step (fun k => gamehalllaw2_IndexCounts.j0.eq_2 _ _ _ _ _ _ _ k) ?_
  refine Ev.no (by simp) ?_
  have j1 : Ev (fun k => gamehalllaw2_IndexCounts.j1 k cells l c n (chkAll cells) (chkcAll l) false) true := by
    refine Ev.step (fun k => gamehalllaw2_IndexCounts.j1.eq_2 _ _ _ _ _ _ _ k) ?_
    refine Ev.no (by simp) (Ev.ite (fun h => ?_) (fun h => j4))
    obtain ⟨h7, hcnt⟩ := hc2 h
    exact Ev.yes (by omega) (law_l0 cells l c n _ (chkAll_zero h).1 h7 hcnt j4 7 0 rfl)
  have j1' : ¬ chkcAll l = 0 → Ev (fun k => gamehalllaw2_IndexCounts.j1 k cells l c n (chkAll cells) (chkcAll l) (n != 0)) true := by
    intro h
    rw [hn1 h] at j1 ⊢
    exact j1
  refine Ev.ite (fun h => Ev.ite (fun h' => j1) (fun h' => j1' h')) (fun h => ?_)
  rw [hc1 h] at j1 j1' ⊢
  exact Ev.no (by simp) (Ev.ite (fun h' => j1) (fun h' => j1' h'))
end Go.Proofs.Ytejcniaepjahbaa.Pure
