/- For every list of cells and every number, Rank, Unrank and Next of package index follow the reference's list of all placements, for at most 6 squares. Conditions: none. -/
import Derived.Test.YtejcniaepjahbaaRIndexOrder
set_option linter.unusedSimpArgs false
set_option linter.unusedVariables false
namespace Go.Proofs.Ytejcniaepjahbaa.Pure
open Go.RowKit Go.Proofs.Ytejcniaepjahbaa.GR Go.Proofs.YtejcniaepjahbaaW.PrintWords Go.Proofs.YtejcniaepjahbaaW.PrintLast Go.Proofs.Ytejcniaepjahbaa.Aid

theorem toNats (l : List Int) (h : ∀ x ∈ l, 0 ≤ x) : ∃ L : List Nat, l = L.map (fun (n : Nat) => (n : Int)) ∧ L.length = l.length ∧ (L.sum : Int) = l.sum := by
  induction l with
  | nil => exact ⟨[], rfl, rfl, rfl⟩
  | cons x r ih =>
    obtain ⟨L, h1, h2, h3⟩ := ih (fun y hy => h y (by simp [hy]))
    have := h x (by simp)
    exact ⟨x.toNat :: L, by simp [h1]; omega, by simp [h2], by simp only [List.sum_cons]; omega⟩
/-- 'many' counts the list. -/
theorem many_pl (s : Nat) (l : List Int) (hl : l.length ≤ 7) (hp : ∀ x ∈ l, 0 ≤ x) (hs : l.sum = (s : Int)) (h16 : s ≤ 16) : Ev (fun k => index_many.f k l) (((pl s l).length : Nat) : Int) := by
  obtain ⟨L, e1, e2, e3⟩ := toNats l hp
  have h := many_ev L (by omega) (by omega)
  have e4 := pl_ways L
  rw [← e1] at h e4
  have : L.sum = s := by omega
  rw [this] at e4
  rw [e4]
  exact h
theorem pl_le (s : Nat) (l : List Int) (hl : l.length ≤ 7) (hp : ∀ x ∈ l, 0 ≤ x) (hs : l.sum = (s : Int)) (h16 : s ≤ 16) : (pl s l).length ≤ 20922789888000 := by
  obtain ⟨L, e1, e2, e3⟩ := toNats l hp
  have e4 := pl_ways L
  rw [← e1] at e4
  have : L.sum = s := by omega
  rw [this] at e4
  rw [e4]
  exact ways_le L (by omega)

/-! ### equality of lists -/
theorem equal_l0 (x y : List Int) (hl : x.length = y.length) (hx : x.length ≤ 100000000000000) (d : Nat) : ∀ j, j + d = x.length → Ev (fun k => slices_Equal_int_int.l0 k x y (x.length : Int) (j : Int)) (decide (x.drop j = y.drop j)) := by
  induction d with
  | zero =>
    intro j hj
    refine Ev.step (fun k => slices_Equal_int_int.l0.eq_2 _ _ _ _ k) ?_
    refine Ev.no (by omega) (Ev.now' ?_)
    rw [List.drop_of_length_le (by omega), List.drop_of_length_le (by omega)]; rfl
  | succ d ih =>
    intro j hj
    have h1 : j < x.length := by omega
    have h2 : j < y.length := by omega
    refine Ev.step (fun k => slices_Equal_int_int.l0.eq_2 _ _ _ _ k) ?_
    refine Ev.yes (by omega) (Ev.yes (by omega) (Ev.yes (by omega) (Ev.yes (by omega) ?_)))
    rw [drop_rd x j h1, drop_rd y j h2]
    refine Ev.ite (fun h => ?_) (fun h => Ev.now' (by simp [h]))
    rw [w64s (by omega), h]
    have := ih (j + 1) (by omega)
    simpa using this
theorem equal_ev (x y : List Int) (hx : x.length ≤ 100000000000000) : Ev (fun k => slices_Equal_int_int.f k x y) (decide (x = y)) := by
  unfold slices_Equal_int_int.f
  refine Ev.ite (fun h => ?_) (fun h => Ev.now' ?_)
  · have := equal_l0 x y (by omega) hx x.length 0 (by omega)
    simpa using this
  · have : ¬ x = y := fun e => h (by rw [e])
    simp [this]
theorem rdL (T : List (List Int)) (j : Nat) (h : j < T.length) : rd_L1 T (j : Int) = T[j] := by simp [rd_L1, h]
/-- The place of a list in a list without another one before it that is equal. -/
theorem indexf_l0 (T : List (List Int)) (x : List Int) (hT : ∀ p ∈ T, p.length ≤ 100000000000000) (hTl : T.length ≤ 100000000000000) (i : Nat) (hi : i < T.length) (hx : T[i] = x) (hj : ∀ j (h : j < T.length), j < i → ¬ T[j] = x) (d : Nat) : ∀ j, j + d = i → Ev (fun k => slices_IndexFunc_of_gamehalllaw2_IndexRanks_1.l0 k T (T.length : Int) (j : Int) x) (i : Int) := by
  induction d with
  | zero =>
    intro j h
    obtain rfl : j = i := by omega
    refine Ev.step (fun k => slices_IndexFunc_of_gamehalllaw2_IndexRanks_1.l0.eq_2 _ _ _ _ k) ?_
    refine Ev.yes (by omega) (Ev.yes (by omega) (Ev.yes (by omega) ?_))
    rw [rdL T j hi]
    unfold gamehalllaw2_IndexRanks_1_by.f
    refine Ev.bind1 (Ev.bind1 (equal_ev _ x (hT _ (List.getElem_mem hi))) (Ev.now _)) (Ev.yes (by simp [hx]) (Ev.now _))
  | succ d ih =>
    intro j h
    have hlt : j < T.length := by omega
    refine Ev.step (fun k => slices_IndexFunc_of_gamehalllaw2_IndexRanks_1.l0.eq_2 _ _ _ _ k) ?_
    refine Ev.yes (by omega) (Ev.yes (by omega) (Ev.yes (by omega) ?_))
    rw [rdL T j hlt]
    unfold gamehalllaw2_IndexRanks_1_by.f
    refine Ev.bind1 (Ev.bind1 (equal_ev _ x (hT _ (List.getElem_mem hlt))) (Ev.now _)) (Ev.no (by simp [hj j hlt (by omega)]) ?_)
    rw [w64s (by omega)]
    exact ih (j + 1) (by omega)

/-! ### Rank -/
theorem set_back (l : List Int) (c : Nat) (h : c < l.length) : (l.set c (rd l (c : Int) - 1)).set c (rd (l.set c (rd l (c : Int) - 1)) (c : Int) + 1) = l := by
  rw [show rd (l.set c (rd l (c : Int) - 1)) (c : Int) = rd l (c : Int) - 1 from rd_set_self l (c : Int) _ (by omega) (by omega), List.set_set, Int.sub_add_cancel, rd_eq l c h, List.set_getElem_self]
theorem blk_len (s : Nat) (l : List Int) (c : Nat) : (blk s l c).length = if rd l (c : Int) = 0 then 0 else (pl s (l.set c (rd l (c : Int) - 1))).length := by
  unfold blk; split <;> simp
theorem frm_split {α : Type} (F : Nat → List α) (d e : Nat) : ∀ c, frm F c (d + e) = frm F c d ++ frm F (c + d) e := by
  induction d with
  | zero => intro c; simp [frm]
  | succ d ih => intro c; rw [Nat.succ_add]; simp only [frm]; rw [ih, List.append_assoc, show c + 1 + d = c + (d + 1) by omega]
theorem rank_l1 (x : List Int) (cn : Nat) (j : Int) (s : Nat) (hs : s + 1 ≤ 16) (l : List Int) (hl : l.length = 7) (hp : ∀ y ∈ l, 0 ≤ y) (hsum : l.sum = (s + 1 : Nat)) (hc : cn < 7) (d : Nat) : ∀ (i : Nat) (acc : Int) (r : Int × Int), i + d = cn → 0 ≤ acc → acc + ((frm (blk s l) i d).length : Int) ≤ 30000000000000 →
    Ev (fun k => index_Rank.l0 k (l.set cn (wrap64 (rd l (cn : Int) - 1))) (acc + ((frm (blk s l) i d).length : Int)) x (x.length : Int) (wrap64 (j + 1))) r →
    Ev (fun k => index_Rank.l1 k l acc (cn : Int) x (x.length : Int) j (cn : Int) (i : Int)) r := by
  induction d with
  | zero =>
    intro i acc r hi h0 hb h
    refine Ev.step (fun k => index_Rank.l1.eq_2 _ _ _ _ _ _ _ _ k) ?_
    refine Ev.no (by omega) (Ev.yes (by omega) (Ev.yes (by omega) ?_))
    rw [show acc + ((frm (blk s l) i 0).length : Int) = acc by simp [frm]] at h
    exact h
  | succ d ih =>
    intro i acc r hi h0 hb h
    have hlt : i < l.length := by omega
    have hx := hp _ (mem_rd l i hlt)
    have hx2 := le_sum l hp _ (mem_rd l i hlt)
    have e : ((frm (blk s l) i (d + 1)).length : Int) = ((blk s l i).length : Int) + ((frm (blk s l) (i + 1) d).length : Int) := by simp [frm]
    rw [e] at hb h
    rw [← Int.add_assoc] at hb h
    refine Ev.step (fun k => index_Rank.l1.eq_2 _ _ _ _ _ _ _ _ k) ?_
    refine Ev.yes (by omega) (Ev.yes (by omega) (Ev.yes (by omega) ?_))
    rw [blk_len] at hb h
    refine Ev.ite (fun hg => ?_) (fun hg => ?_)
    · have hn : ¬ rd l (i : Int) = 0 := by omega
      rw [if_neg hn] at hb h
      refine Ev.some_bind ?_
      rw [w64 (i := rd l (i : Int) - 1) (by omega) (by omega), Int.toNat_natCast]
      have hd := dec_sum l i hlt
      refine Ev.bind1 (many_pl s _ (by simp; omega) (dec_nonneg l hp i hlt hn) (by omega) (by omega)) ?_
      have hb2 : rd (l.set i (rd l (i : Int) - 1)) (i : Int) = rd l (i : Int) - 1 := rd_set_self l (i : Int) _ (by omega) (by omega)
      rw [w64 (i := rd (l.set i (rd l (i : Int) - 1)) (i : Int) + 1) (by omega) (by omega), set_back l i hlt, w64 (i := (i : Int) + 1) (by omega) (by omega), w64 (by omega) (by omega)]
      exact ih (i + 1) _ r (by omega) (by omega) hb h
    · have hn : rd l (i : Int) = 0 := by omega
      rw [if_pos hn, show ((0 : Nat) : Int) = 0 from rfl, Int.add_zero] at hb h
      rw [w64 (i := (i : Int) + 1) (by omega) (by omega)]
      exact ih (i + 1) _ r (by omega) h0 hb h
theorem getElem_frm {α : Type} (F : Nat → List α) (c n : Nat) (hc : c < n) (i : Nat) (hi : i < (F c).length) : ∃ h : (frm F 0 c).length + i < (frm F 0 n).length, (frm F 0 n)[(frm F 0 c).length + i] = (F c)[i] := by
  obtain ⟨m, rfl⟩ : ∃ m, n = c + (m + 1) := ⟨n - c - 1, by omega⟩
  have e : frm F 0 (c + (m + 1)) = frm F 0 c ++ (F c ++ frm F (c + 1) m) := by rw [frm_split]; simp [frm]
  refine ⟨by rw [e]; simp; omega, ?_⟩
  simp only [e]
  rw [List.getElem_append_right (by omega), List.getElem_append_left (by omega)]
  simp
/-- From place j on: what is left has the counts l. -/
theorem rank_l0 (x : List Int) (hx : ∀ e ∈ x, 0 ≤ e ∧ e ≤ 6) (hx16 : x.length ≤ 16) (s : Nat) : ∀ (j : Nat) (l : List Int) (acc : Int), j + s = x.length → l.length = 7 → (∀ y ∈ l, 0 ≤ y) → l.sum = (s : Int) → (∀ c : Nat, c < 7 → ((x.drop j).count (c : Int) : Int) = rd l (c : Int)) → 0 ≤ acc → acc + ((pl s l).length : Int) ≤ 30000000000000 →
    ∃ i : Nat, ∃ h : i < (pl s l).length, (pl s l)[i] = x.drop j ∧ Ev (fun k => index_Rank.l0 k l acc x (x.length : Int) (j : Int)) (acc + i, 0) := by
  induction s with
  | zero =>
    intro j l acc hj hl hp hs hc h0 hb
    refine ⟨0, by simp [pl], ?_, ?_⟩
    · rw [List.drop_of_length_le (by omega)]; simp [pl]
    · refine Ev.step (fun k => index_Rank.l0.eq_2 _ _ _ _ _ k) ?_
      exact Ev.no (by omega) (Ev.now' (by simp))
  | succ s ih =>
    intro j l acc hj hl hp hs hc h0 hb
    have hlt : j < x.length := by omega
    have hxj := hx _ (mem_rd x j hlt)
    obtain ⟨cn, hcn⟩ : ∃ cn : Nat, rd x (j : Int) = (cn : Int) := ⟨(rd x (j : Int)).toNat, by omega⟩
    have hcl : cn < l.length := by omega
    rw [drop_rd x j hlt, hcn] at hc
    have hcc := hc cn (by omega)
    rw [List.count_cons_self] at hcc
    have hn : ¬ rd l (cn : Int) = 0 := by omega
    have hd := dec_sum l cn hcl
    have hx1 := hp _ (mem_rd l cn hcl)
    have hx2 := le_sum l hp _ (mem_rd l cn hcl)
    have hblk : blk s l cn = (pl s (l.set cn (rd l (cn : Int) - 1))).map (fun p => (cn : Int) :: p) := by unfold blk; rw [if_neg hn]
    have hsplit : (pl (s + 1) l).length = (frm (blk s l) 0 cn).length + (blk s l cn).length + (frm (blk s l) (cn + 1) (6 - cn)).length := by
      rw [pl_succ, hl, show 7 = cn + ((6 - cn) + 1) by omega, frm_split, List.length_append]
      simp only [frm, List.length_append, Nat.zero_add]; omega
    have hbl : (blk s l cn).length = (pl s (l.set cn (rd l (cn : Int) - 1))).length := by rw [hblk, List.length_map]
    obtain ⟨i, hi, hie, hev⟩ := ih (j + 1) (l.set cn (rd l (cn : Int) - 1)) (acc + ((frm (blk s l) 0 cn).length : Int)) (by omega) (by simpa using hl) (dec_nonneg l hp cn hcl hn) (by omega) (by
      intro c hc7
      have := hc c hc7
      rw [List.count_cons] at this
      by_cases e : cn = c
      · subst e
        rw [show l.set cn (rd l (cn : Int) - 1) = l.set ((cn : Int)).toNat (rd l (cn : Int) - 1) from rfl, rd_set_self l (cn : Int) _ (by omega) (by omega)]
        simp at this; omega
      · rw [show l.set cn (rd l (cn : Int) - 1) = l.set ((cn : Int)).toNat (rd l (cn : Int) - 1) from rfl, rd_set_ne l (cn : Int) _ _ (by omega) (by omega) (by omega)]
        rw [if_neg (by simp; omega)] at this; omega) (by omega) (by omega)
    obtain ⟨h1, h2⟩ := getElem_frm (blk s l) cn l.length hcl i (by omega)
    refine ⟨(frm (blk s l) 0 cn).length + i, by rw [pl_succ]; exact h1, ?_, ?_⟩
    · have h3 : (pl (s + 1) l)[(frm (blk s l) 0 cn).length + i]'(by rw [pl_succ]; exact h1) = (blk s l cn)[i]'(by omega) := h2
      rw [h3, drop_rd x j hlt, hcn]
      simp only [hblk, List.getElem_map]
      rw [hie]
    · refine Ev.step (fun k => index_Rank.l0.eq_2 _ _ _ _ _ k) ?_
      refine Ev.yes (by omega) (Ev.yes (by omega) (Ev.yes (by omega) ?_))
      rw [hcn]
      refine rank_l1 x cn (j : Int) s (by omega) l hl hp hs (by omega) cn 0 acc _ (by omega) h0 (by omega) ?_
      rw [w64s (by omega), w64 (i := rd l (cn : Int) - 1) (by omega) (by omega)]
      rw [show acc + (((frm (blk s l) 0 cn).length + i : Nat) : Int) = acc + ((frm (blk s l) 0 cn).length : Int) + (i : Int) by omega]
      exact hev

/-! ### Unrank -/
theorem unrank_l2 (s : Nat) (hs : s + 1 ≤ 16) (l out : List Int) (q t : Int) (hl : l.length = 7) (hp : ∀ y ∈ l, 0 ≤ y) (hsum : l.sum = (s + 1 : Nat)) (hout : out.length ≤ 16) (R : List Int × Int)
    (n : Nat) (hn : n < (pl (s + 1) l).length) (d : Nat) : ∀ (c : Nat), c + d = 7 → ∀ m : Nat, m + (frm (blk s l) 0 c).length = n →
    (∀ (c : Nat) (p : Nat) (hp' : p < (pl s (l.set c (rd l (c : Int) - 1))).length), c < 7 → ¬ rd l (c : Int) = 0 → (pl (s + 1) l)[n] = (c : Int) :: (pl s (l.set c (rd l (c : Int) - 1)))[p] → Ev (fun k => index_Unrank.l1 k (p : Int) (l.set c (rd l (c : Int) - 1)) (out ++ [(c : Int)]) q (wrap64 (t + 1))) R) →
    Ev (fun k => index_Unrank.l2 k (m : Int) l out q t 7 (c : Int)) R := by
  induction d with
  | zero =>
    intro c hc m hm _
    obtain rfl : c = 7 := by omega
    rw [pl_succ, hl] at hn
    omega
  | succ d ih =>
    intro c hc m hm h
    have hlt : c < l.length := by omega
    have hx := hp _ (mem_rd l c hlt)
    have hx2 := le_sum l hp _ (mem_rd l c hlt)
    have hle := pl_le (s + 1) l (by omega) hp hsum hs
    have hfr : (frm (blk s l) 0 (c + 1)).length = (frm (blk s l) 0 c).length + (blk s l c).length := by rw [frm_split, List.length_append]; simp [frm]
    rw [blk_len] at hfr
    refine Ev.step (fun k => index_Unrank.l2.eq_2 _ _ _ _ _ _ _ k) ?_
    refine Ev.yes (by omega) (Ev.yes (by omega) (Ev.yes (by omega) (Ev.ite (fun h0 => ?_) (fun h0 => ?_))))
    · rw [if_pos h0] at hfr
      rw [w64s (by omega)]
      exact ih (c + 1) (by omega) m (by omega) h
    · rw [if_neg h0] at hfr
      have hd := dec_sum l c hlt
      refine Ev.some_bind ?_
      rw [w64 (i := rd l (c : Int) - 1) (by omega) (by omega), Int.toNat_natCast]
      refine Ev.bind1 (many_pl s _ (by simp; omega) (dec_nonneg l hp c hlt h0) (by omega) (by omega)) ?_
      have hb2 : rd (l.set c (rd l (c : Int) - 1)) (c : Int) = rd l (c : Int) - 1 := rd_set_self l (c : Int) _ (by omega) (by omega)
      refine Ev.ite (fun hg => ?_) (fun hg => ?_)
      · rw [w64 (i := rd (l.set c (rd l (c : Int) - 1)) (c : Int) + 1) (by omega) (by omega), set_back l c hlt, w64s (by omega), w64 (by omega) (by omega), show (m : Int) - (((pl s (l.set c (rd l (c : Int) - 1))).length : Nat) : Int) = ((m - (pl s (l.set c (rd l (c : Int) - 1))).length : Nat) : Int) by omega]
        exact ih (c + 1) (by omega) _ (by omega) h
      · refine Ev.yes (by omega) ?_
        refine h c m (by omega) (by omega) h0 ?_
        have hblk : blk s l c = (pl s (l.set c (rd l (c : Int) - 1))).map (fun p => (c : Int) :: p) := by unfold blk; rw [if_neg h0]
        obtain ⟨h1, h2⟩ := getElem_frm (blk s l) c l.length hlt m (by rw [hblk, List.length_map]; omega)
        have e : n = (frm (blk s l) 0 c).length + m := by omega
        subst e
        have h3 : (pl (s + 1) l)[(frm (blk s l) 0 c).length + m] = (blk s l c)[m]'(by rw [hblk, List.length_map]; omega) := h2
        rw [h3]
        simp only [hblk, List.getElem_map]
theorem unrank_l1 (S : Nat) (hS : S ≤ 16) (s : Nat) : ∀ (t : Nat) (l out : List Int) (n : Nat), t + s = S → out.length = t → l.length = 7 → (∀ y ∈ l, 0 ≤ y) → l.sum = (s : Int) → ∀ hn : n < (pl s l).length, Ev (fun k => index_Unrank.l1 k (n : Int) l out (S : Int) (t : Int)) (out ++ (pl s l)[n], 0) := by
  induction s with
  | zero =>
    intro t l out n ht ho hl hp hs hn
    refine Ev.step (fun k => index_Unrank.l1.eq_2 _ _ _ _ _ k) ?_
    refine Ev.no (by omega) (Ev.now' ?_)
    simp [pl]
  | succ s ih =>
    intro t l out n ht ho hl hp hs hn
    refine Ev.step (fun k => index_Unrank.l1.eq_2 _ _ _ _ _ k) ?_
    refine Ev.yes (by omega) ?_
    rw [hl]
    refine unrank_l2 s (by omega) l out (S : Int) (t : Int) hl hp hs (by omega) _ n hn 7 0 rfl n (by simp [frm]) (fun c p hp' hc h0 he => ?_)
    rw [w64s (by omega)]
    have hlt : c < l.length := by omega
    have := ih (t + 1) (l.set c (rd l (c : Int) - 1)) (out ++ [(c : Int)]) p (by omega) (by simp [ho]) (by simpa using hl) (dec_nonneg l hp c hlt h0) (by rw [dec_sum l c hlt]; omega) hp'
    rw [he]
    simpa using this
theorem unrank_l0 (l L2 : List Int) (n : Int) (hl : l.length = 7) (hp : ∀ y ∈ l, 0 ≤ y) (hs : l.sum ≤ 16) (R : List Int × Int) (h : Ev (fun k => index_Unrank.l1 k n L2 [] l.sum 0) R) (d : Nat) : ∀ (j : Nat) (a : Int), j + d = l.length → 0 ≤ a → a + (l.drop j).sum = l.sum → Ev (fun k => index_Unrank.l0 k n L2 a l (l.length : Int) (j : Int)) R := by
  induction d with
  | zero =>
    intro j a hj h0 ha
    refine Ev.step (fun k => index_Unrank.l0.eq_2 _ _ _ _ _ _ k) ?_
    rw [show j = l.length by omega, List.drop_length, List.sum_nil, Int.add_zero] at ha
    rw [ha]
    exact Ev.no (by omega) h
  | succ d ih =>
    intro j a hj h0 ha
    have hlt : j < l.length := by omega
    rw [sum_drop l j hlt] at ha
    have hx := hp _ (mem_rd l j hlt)
    have hd := sum_nonneg _ (mem_drop_nonneg hp (j + 1))
    refine Ev.step (fun k => index_Unrank.l0.eq_2 _ _ _ _ _ _ k) ?_
    refine Ev.yes (by omega) (Ev.yes (by omega) (Ev.yes (by omega) ?_))
    rw [w64s (by omega), w64 (by omega) (by omega)]
    exact ih (j + 1) _ (by omega) (by omega) (by omega)
theorem chkcAll_of {l : List Int} (h7 : l.length = 7) (hp : ∀ x ∈ l, 0 ≤ x) (hs : l.sum ≤ 16) : chkcAll l = 0 := by
  have : ∀ (l : List Int) (s : Int), 0 ≤ s → (∀ x ∈ l, 0 ≤ x) → s + l.sum ≤ 16 → chkc s l = 0 := by
    intro l
    induction l with
    | nil => intro s _ _ h; simp only [List.sum_nil] at h; simp only [chkc]; rw [if_neg (by omega)]
    | cons x r ih =>
      intro s h0 hp h
      have hx := hp x (by simp)
      have hr := sum_nonneg r (fun y hy => hp y (by simp [hy]))
      simp only [List.sum_cons] at h
      simp only [chkc]
      rw [if_neg (by omega), if_neg (by omega)]
      exact ih _ (by omega) (fun y hy => hp y (by simp [hy])) (by omega)
  unfold chkcAll
  rw [if_pos (by omega)]
  exact this l 0 (by omega) hp (by omega)
theorem unrank_ev (s : Nat) (h16 : s ≤ 16) (l : List Int) (n : Int) (hl : l.length = 7) (hp : ∀ y ∈ l, 0 ≤ y) (hs : l.sum = (s : Int)) : (n < 0 ∨ n ≥ ((pl s l).length : Int) → Ev (fun k => index_Unrank.f k l n) ([], 4)) ∧ ∀ m : Nat, n = (m : Int) → ∀ h : m < (pl s l).length, Ev (fun k => index_Unrank.f k l n) ((pl s l)[m], 0) := by
  have hc := chkcAll_of hl hp (by omega)
  have hm := many_pl s l (by omega) hp hs h16
  constructor
  · intro h
    unfold index_Unrank.f
    refine Ev.bind1 (ccheck_ev l) (Ev.yes hc (Ev.ite (fun h1 => ?_) (fun h1 => ?_)))
    · exact Ev.step (fun k => index_Unrank.j0.eq_2 _ _ _ k) (Ev.yes rfl (Ev.now _))
    · refine Ev.bind1 hm ?_
      exact Ev.step (fun k => index_Unrank.j0.eq_2 _ _ _ k) (Ev.yes (by simp; omega) (Ev.now _))
  · rintro m rfl h
    unfold index_Unrank.f
    refine Ev.bind1 (ccheck_ev l) (Ev.yes hc (Ev.no (by omega) (Ev.bind1 hm ?_)))
    refine Ev.step (fun k => index_Unrank.j0.eq_2 _ _ _ k) (Ev.no (by simp; omega) ?_)
    refine Ev.opt_bind (a := l) (by unfold slices_Clone_int_int.f; rw [if_pos (by omega)]) ?_
    refine unrank_l0 l l m hl hp (by omega) _ ?_ l.length 0 0 (by omega) (by omega) (by simp)
    have := unrank_l1 s h16 s 0 l [] m (by omega) rfl hl hp hs h
    rw [hs]
    simpa using this

/-! ### Next -/
theorem rd_mid (X : List Int) (e : Int) (Y : List Int) (i : Nat) (h : i = X.length) : rd (X ++ e :: Y) (i : Int) = e := by
  subst h; rw [rd_nat]; simp [List.getD_eq_getElem?_getD]
theorem set_mid (X : List Int) (e v : Int) (Y : List Int) (i : Nat) (h : i = X.length) : (X ++ e :: Y).set i v = X ++ v :: Y := by
  subst h; simp
theorem snoc_cases (M : List Int) : M = [] ∨ (∃ e, M = [e]) ∨ ∃ e M' f, M = e :: (M' ++ [f]) := by
  cases M with
  | nil => exact .inl rfl
  | cons e M =>
    rcases List.eq_nil_or_concat M with rfl | ⟨M', f, rfl⟩
    · exact .inr (.inl ⟨e, rfl⟩)
    · exact .inr (.inr ⟨e, M', f, by simp⟩)
theorem revcut_l0 (P : List Int) (d : Nat) : ∀ (M A B : List Int) (t : Nat), M.length ≤ d → A.length = t → B.length = t → P.length + A.length + M.length + B.length ≤ 1000 →
    Ev (fun k => slices_ReverseCut.l0 k P.length (2 * t + M.length) (P ++ (A ++ (M ++ B))) (t : Int) ((t : Int) + (M.length : Int) - 1)) (P ++ (A ++ (M.reverse ++ B))) := by
  induction d with
  | zero =>
    intro M A B t hM hA hB hb
    obtain rfl : M = [] := List.length_eq_zero_iff.1 (by omega)
    refine Ev.step (fun k => slices_ReverseCut.l0.eq_2 _ _ _ _ _ k) ?_
    exact Ev.no (by simp; omega) (Ev.now' (by simp))
  | succ d ih =>
    intro M A B t hM hA hB hb
    refine Ev.step (fun k => slices_ReverseCut.l0.eq_2 _ _ _ _ _ k) ?_
    rcases snoc_cases M with rfl | ⟨e, rfl⟩ | ⟨e, M', f, rfl⟩
    · exact Ev.no (by simp; omega) (Ev.now' (by simp))
    · exact Ev.no (by simp) (Ev.now' (by simp))
    · have hl : (e :: (M' ++ [f])).length = M'.length + 2 := by simp
      rw [hl] at hM hb ⊢
      refine Ev.yes (by omega) (Ev.yes (by omega) (Ev.yes (by omega) (Ev.yes (by omega) (Ev.yes (by omega) ?_))))
      have e1 : ((t : Int) + ((M'.length + 2 : Nat) : Int) - 1).toNat = t + M'.length + 1 := by omega
      have e2 : ((t : Int)).toNat = t := by omega
      rw [e1, e2]
      have r1 : rd (P ++ (A ++ (e :: (M' ++ [f]) ++ B))) ((P.length + (t + M'.length + 1) : Nat) : Int) = f := by
        have := rd_mid (P ++ (A ++ (e :: M'))) f B (P.length + (t + M'.length + 1)) (by simp; omega)
        simpa using this
      have r2 : rd (P ++ (A ++ (e :: (M' ++ [f]) ++ B))) ((P.length + t : Nat) : Int) = e := by
        have := rd_mid (P ++ A) e (M' ++ (f :: B)) (P.length + t) (by simp; omega)
        simpa using this
      rw [r1, r2]
      have s1 : (P ++ (A ++ (e :: (M' ++ [f]) ++ B))).set (P.length + t) f = P ++ (A ++ (f :: (M' ++ [f]) ++ B)) := by
        have := set_mid (P ++ A) e f (M' ++ (f :: B)) (P.length + t) (by simp; omega)
        simpa using this
      have s2 : (P ++ (A ++ (f :: (M' ++ [f]) ++ B))).set (P.length + (t + M'.length + 1)) e = P ++ (A ++ (f :: (M' ++ [e]) ++ B)) := by
        have := set_mid (P ++ (A ++ (f :: M'))) f e B (P.length + (t + M'.length + 1)) (by simp; omega)
        simpa using this
      rw [s1, s2, w64s (by omega), w64 (by omega) (by omega)]
      have := ih M' (A ++ [f]) (e :: B) (t + 1) (by omega) (by simp [hA]) (by simp [hB]) (by simp; omega)
      rw [show 2 * (t + 1) + M'.length = 2 * t + (M'.length + 2) by omega, show ((t + 1 : Nat) : Int) + (M'.length : Int) - 1 = (t : Int) + ((M'.length + 2 : Nat) : Int) - 1 - 1 by omega] at this
      simpa using this
theorem revcut_ev (P S : List Int) (hb : P.length + S.length ≤ 1000) : Ev (fun k => slices_ReverseCut.f k P.length (P ++ S)) (P ++ S.reverse) := by
  unfold slices_ReverseCut.f
  have := revcut_l0 P S.length S [] [] 0 (by omega) rfl rfl (by simp; omega)
  rw [show (P ++ S).length - P.length = S.length by simp, w64 (by omega) (by omega)]
  simpa using this
theorem next_l1 (pre u : List Int) (a d : Int) (had : a < d) (hb : pre.length + u.length ≤ 100) (v : List Int) : ∀ (v2 : List Int), (∀ e ∈ v, e ≤ a) → v.length + v2.length ≤ 100 → ∀ R,
    Ev (fun k => (slices_ReverseCut.f k (pre.length + 1) (pre ++ d :: (u ++ a :: (v ++ v2)))).bind fun t => some (t, (0 : Int))) R →
    Ev (fun k => index_Next.l1 k (pre ++ a :: (u ++ d :: (v ++ v2))) (pre.length : Int) ((pre.length + 1 + u.length + v.length : Nat) : Int)) R := by
  have hlen : ∀ w : List Int, (pre ++ a :: (u ++ d :: w)).length = pre.length + u.length + w.length + 2 := by intro w; simp; omega
  induction hv : v.length generalizing v with
  | zero =>
    obtain rfl : v = [] := List.length_eq_zero_iff.1 hv
    intro v2 hva hb2 R h
    simp only [List.nil_append, List.length_nil, Nat.add_zero] at h hb2 ⊢
    refine Ev.step (fun k => index_Next.l1.eq_2 _ _ _ k) ?_
    have rk : rd (pre ++ a :: (u ++ d :: v2)) ((pre.length + 1 + u.length : Nat) : Int) = d := by
      have := rd_mid (pre ++ a :: u) d v2 (pre.length + 1 + u.length) (by simp; omega)
      simpa using this
    have ri : rd (pre ++ a :: (u ++ d :: v2)) (pre.length : Int) = a := rd_mid pre a _ _ rfl
    have hl := hlen v2
    refine Ev.yes (by omega) (Ev.yes (by omega) (Ev.yes (by omega) (Ev.yes (by omega) (Ev.no (by rw [rk, ri]; omega) (Ev.some_bind ?_)))))
    rw [rk, ri, w64s (by omega)]
    refine Ev.yes (by omega) (Ev.yes (by omega) (Ev.yes (by omega) ?_))
    have s1 : (pre ++ a :: (u ++ d :: v2)).set ((pre.length : Int)).toNat d = pre ++ d :: (u ++ d :: v2) := by
      rw [Int.toNat_natCast]; exact set_mid pre a d _ _ rfl
    have s2 : (pre ++ d :: (u ++ d :: v2)).set (((pre.length + 1 + u.length : Nat) : Int)).toNat a = pre ++ d :: (u ++ a :: v2) := by
      rw [Int.toNat_natCast]
      have := set_mid (pre ++ d :: u) d a v2 (pre.length + 1 + u.length) (by simp; omega)
      simpa using this
    rw [s1, s2, Int.toNat_natCast]
    exact h
  | succ n ih =>
    intro v2 hva hb2 R h
    rcases List.eq_nil_or_concat v with rfl | ⟨v', e, rfl⟩
    · simp at hv
    · have hv' : v'.length = n := by simpa using hv
      have he := hva e (by simp)
      simp only [List.concat_eq_append, List.append_assoc, List.cons_append, List.nil_append] at h ⊢
      refine Ev.step (fun k => index_Next.l1.eq_2 _ _ _ k) ?_
      have rk : rd (pre ++ a :: (u ++ d :: (v' ++ e :: v2))) ((pre.length + 1 + u.length + (n + 1) : Nat) : Int) = e := by
        have := rd_mid (pre ++ a :: (u ++ d :: v')) e v2 (pre.length + 1 + u.length + (n + 1)) (by simp; omega)
        simpa using this
      have ri : rd (pre ++ a :: (u ++ d :: (v' ++ e :: v2))) (pre.length : Int) = a := rd_mid pre a _ _ rfl
      have hl : (pre ++ a :: (u ++ d :: (v' ++ e :: v2))).length = pre.length + u.length + v'.length + v2.length + 3 := by simp; omega
      refine Ev.yes (by omega) (Ev.yes (by omega) (Ev.yes (by omega) (Ev.yes (by omega) (Ev.yes (by rw [rk, ri]; omega) ?_))))
      rw [w64 (by omega) (by omega), show ((pre.length + 1 + u.length + (n + 1) : Nat) : Int) - 1 = ((pre.length + 1 + u.length + v'.length : Nat) : Int) by omega]
      have := ih v' hv' (e :: v2) (fun x hx => hva x (by simp [hx])) (by simp; omega) R h
      rw [hv']
      exact this

theorem split_last (a : Int) : ∀ (w : List Int), (∃ e ∈ w, a < e) → ∃ u d v, w = u ++ d :: v ∧ a < d ∧ ∀ e ∈ v, e ≤ a
  | [], h => by obtain ⟨e, he, _⟩ := h; simp at he
  | x :: w, h => by
    by_cases h2 : ∃ e ∈ w, a < e
    · obtain ⟨u, d, v, rfl, h3, h4⟩ := split_last a w h2
      exact ⟨x :: u, d, v, rfl, h3, h4⟩
    · obtain ⟨e, he, hae⟩ := h
      rcases List.mem_cons.1 he with rfl | he
      · exact ⟨[], e, w, rfl, hae, fun f hf => Int.not_lt.1 (fun hl => h2 ⟨f, hf, hl⟩)⟩
      · exact absurd ⟨e, he, hae⟩ h2
/-- What Next returns: by the last place that is less than its neighbour. -/
theorem next_l0 (w : List Int) (hw : w.length ≤ 16) : ∀ (pre suf : List Int), w = pre ++ suf → suf.Pairwise (· ≥ ·) → (w.Pairwise (· ≥ ·) ∧ Ev (fun k => index_Next.l0 k w ((pre.length : Int) - 1)) ([], 8)) ∨
    ((∃ p a d u v, w = p ++ a :: (u ++ d :: v) ∧ (u ++ d :: v).Pairwise (· ≥ ·) ∧ a < d ∧ (∀ e ∈ v, e ≤ a) ∧ Ev (fun k => index_Next.l0 k w ((pre.length : Int) - 1)) (p ++ d :: (u ++ a :: v).reverse, 0)) ∨ suf = []) := by
  intro pre
  induction hp : pre.length generalizing pre with
  | zero =>
    intro suf e hd
    obtain rfl : pre = [] := List.length_eq_zero_iff.1 hp
    rw [List.nil_append] at e
    subst e
    refine .inl ⟨hd, ?_⟩
    refine Ev.step (fun k => index_Next.l0.eq_2 _ _ k) (Ev.no (by omega) ?_)
    exact Ev.step (fun k => index_Next.j1.eq_2 _ _ k) (Ev.yes (by omega) (Ev.now _))
  | succ n ih =>
    intro suf e hd
    rcases List.eq_nil_or_concat pre with rfl | ⟨p, a, rfl⟩
    · simp at hp
    · have hpn : p.length = n := by simpa using hp
      cases suf with
      | nil => exact .inr (.inr rfl)
      | cons b suf =>
        have e2 : w = p ++ a :: (b :: suf) := by rw [e]; simp
        have hl : w.length = p.length + suf.length + 2 := by rw [e2]; simp; omega
        have ra : rd w (n : Int) = a := by rw [e2]; exact rd_mid p a _ n hpn.symm
        have rb : rd w ((n + 1 : Nat) : Int) = b := by
          rw [e2]
          have := rd_mid (p ++ [a]) b suf (n + 1) (by simp; omega)
          simpa using this
        have hi : ((n + 1 : Nat) : Int) - 1 = (n : Int) := by omega
        rw [hi]
        by_cases h : a ≥ b
        · have hd2 : (a :: b :: suf).Pairwise (· ≥ ·) := by
            rw [List.pairwise_cons] at hd ⊢
            refine ⟨fun x hx => ?_, by rw [List.pairwise_cons]; exact hd⟩
            rcases List.mem_cons.1 hx with rfl | hx
            · exact h
            · have := hd.1 x hx; show a ≥ x; omega
          have step : ∀ R, Ev (fun k => index_Next.l0 k w ((n : Int) - 1)) R → Ev (fun k => index_Next.l0 k w (n : Int)) R := by
            intro R hR
            refine Ev.step (fun k => index_Next.l0.eq_2 _ _ k) ?_
            rw [w64s (by omega)]
            refine Ev.yes (by omega) (Ev.yes (by omega) (Ev.yes (by omega) (Ev.yes (by omega) (Ev.yes (by omega) (Ev.yes (by rw [ra, rb]; exact h) ?_)))))
            rw [w64 (by omega) (by omega)]
            exact hR
          rcases ih p hpn (a :: b :: suf) e2 hd2 with ⟨h1, h2⟩ | ⟨q, a', d, u, v, h1, h2, h3, h4, h5⟩ | h1
          · exact .inl ⟨h1, step _ h2⟩
          · exact .inr (.inl ⟨q, a', d, u, v, h1, h2, h3, h4, step _ h5⟩)
          · simp at h1
        · obtain ⟨u, d, v, e3, had, hv⟩ := split_last a (b :: suf) ⟨b, by simp, by omega⟩
          rw [e3] at e2 hd
          refine .inr (.inl ⟨p, a, d, u, v, e2, hd, had, hv, ?_⟩)
          have hl2 : w.length = p.length + u.length + v.length + 2 := by rw [e2]; simp; omega
          refine Ev.step (fun k => index_Next.l0.eq_2 _ _ k) ?_
          rw [w64s (by omega)]
          refine Ev.yes (by omega) (Ev.yes (by omega) (Ev.yes (by omega) (Ev.yes (by omega) (Ev.yes (by omega) (Ev.no (by rw [ra, rb]; exact h) ?_)))))
          refine Ev.step (fun k => index_Next.j1.eq_2 _ _ k) (Ev.no (by omega) ?_)
          have h6 := next_l1 p u a d had (by omega) v [] hv (by simp; omega) (p ++ d :: (u ++ a :: v).reverse, 0) (by
            have := revcut_ev (p ++ [d]) (u ++ a :: v) (by simp; omega)
            refine Ev.bind1 (a := p ++ d :: (u ++ a :: v).reverse) ?_ (Ev.now _)
            simpa using this)
          rw [List.append_nil, hpn] at h6
          rw [w64 (by omega) (by omega), show (w.length : Int) - 1 = ((n + 1 + u.length + v.length : Nat) : Int) by omega, e2]
          exact h6
theorem Next_ev (x : List Int) (hc : chkAll x = 0) : (x.Pairwise (· ≥ ·) ∧ Ev (fun k => index_Next.f k x) ([], 8)) ∨
    ∃ p a d u v, x = p ++ a :: (u ++ d :: v) ∧ (u ++ d :: v).Pairwise (· ≥ ·) ∧ a < d ∧ (∀ e ∈ v, e ≤ a) ∧ Ev (fun k => index_Next.f k x) (p ++ d :: (u ++ a :: v).reverse, 0) := by
  obtain ⟨h16, hv⟩ := chkAll_zero hc
  have start : ∀ R, Ev (fun k => index_Next.l0 k x ((x.length : Int) - 2)) R → Ev (fun k => index_Next.f k x) R := by
    intro R h
    unfold index_Next.f
    refine Ev.bind1 (check_ev x (by omega)) (Ev.yes hc (Ev.opt_bind (a := x) (by unfold slices_Clone_int_int.f; rw [if_pos (by omega)]) ?_))
    rw [w64 (by omega) (by omega)]
    exact h
  rcases List.eq_nil_or_concat x with rfl | ⟨p, e, he⟩
  · refine .inl ⟨List.Pairwise.nil, start _ ?_⟩
    refine Ev.step (fun k => index_Next.l0.eq_2 _ _ k) (Ev.no (by simp) ?_)
    exact Ev.step (fun k => index_Next.j1.eq_2 _ _ k) (Ev.yes (by simp) (Ev.now _))
  · have hl : x.length = p.length + 1 := by rw [he]; simp
    have hi : (x.length : Int) - 2 = (p.length : Int) - 1 := by omega
    rw [hi] at start
    rcases next_l0 x h16 p [e] (by rw [he]; simp) (by simp) with ⟨h1, h2⟩ | ⟨q, a, d, u, v, h1, h2, h3, h4, h5⟩ | h1
    · exact .inl ⟨h1, start _ h2⟩
    · exact .inr ⟨q, a, d, u, v, h1, h2, h3, h4, start _ h5⟩
    · simp at h1

/-! ### the law -/
theorem law_counts (x : List Int) (hx : ∀ e ∈ x, 0 ≤ e ∧ e ≤ 6) (hx16 : x.length ≤ 16) (n r x6 x8 : Int) (x7 : List Int) (R : Bool)
    (h : ∀ c : List Int, c.length = 7 → (∀ i : Nat, i < 7 → rd c (i : Int) = (x.count (i : Int) : Int)) → Ev (fun k => (gamehallref2_Placements.f k c).bind fun t258 => ((slices_IndexFunc_of_gamehalllaw2_IndexRanks_1.f k t258 x).bind fun t261 => (if x6 = 0 then (gamehalllaw2_IndexRanks.j1 k n x7 x8 c t258 t261 (r != t261)) else (gamehalllaw2_IndexRanks.j1 k n x7 x8 c t258 t261 true)))) R) (d : Nat) : ∀ (j : Nat) (c : List Int), j + d = x.length → c.length = 7 → (∀ i : Nat, i < 7 → rd c (i : Int) = ((x.take j).count (i : Int) : Int)) →
    Ev (fun k => gamehalllaw2_IndexRanks.l0 k n r x6 x7 x8 c x (x.length : Int) (j : Int) x) R := by
  induction d with
  | zero =>
    intro j c hj hc hcnt
    refine Ev.step (fun k => gamehalllaw2_IndexRanks.l0.eq_2 _ _ _ _ _ _ _ _ _ _ k) ?_
    rw [List.take_of_length_le (by omega)] at hcnt
    exact Ev.no (by omega) (h c hc hcnt)
  | succ d ih =>
    intro j c hj hc hcnt
    have hlt : j < x.length := by omega
    have hxj := hx _ (mem_rd x j hlt)
    have hcn : (x.take j).count (rd x (j : Int)) ≤ 16 := Nat.le_trans List.count_le_length (by simp; omega)
    have hr := hcnt (rd x (j : Int)).toNat (by omega)
    rw [Int.toNat_of_nonneg hxj.1] at hr
    refine Ev.step (fun k => gamehalllaw2_IndexRanks.l0.eq_2 _ _ _ _ _ _ _ _ _ _ k) ?_
    refine Ev.yes (by omega) (Ev.yes (by omega) (Ev.yes (by omega) (Ev.yes (by omega) (Ev.yes (by omega) ?_))))
    rw [w64s (by omega), w64 (by omega) (by omega)]
    refine ih (j + 1) _ (by omega) (by simpa using hc) ?_
    intro i hi
    rw [rd_eq x j hlt] at hr hxj hcn ⊢
    rw [List.take_succ_eq_append_getElem hlt, List.count_append]
    by_cases e : x[j] = (i : Int)
    · rw [e, rd_set_self _ _ _ (by omega) (by omega), ← e, hr]
      simp
    · rw [rd_set_ne _ _ _ _ (by omega) (by omega) e, hcnt i hi]
      simp [List.count_cons, e]
theorem counts_sum (x : List Int) (hx : ∀ e ∈ x, 0 ≤ e ∧ e ≤ 6) : ∀ (c : List Int), c.length = 7 → (∀ i : Nat, i < 7 → rd c (i : Int) = (x.count (i : Int) : Int)) → c.sum = (x.length : Int) := by
  induction x with
  | nil =>
    intro c hc h
    have : ∀ y ∈ c, y = 0 := by
      intro y hy
      obtain ⟨i, hi, rfl⟩ := List.getElem_of_mem hy
      have := h i (by omega)
      rw [rd_eq c i hi] at this
      simpa using this
    have e : c = List.replicate 7 0 := List.eq_replicate_iff.2 ⟨hc, this⟩
    rw [e]; rfl
  | cons a x ih =>
    intro c hc h
    have ha := hx a (by simp)
    obtain ⟨n, hn⟩ : ∃ n : Nat, a = (n : Int) := ⟨a.toNat, by omega⟩
    subst hn
    have hlt : n < c.length := by omega
    have h1 := ih (fun e he => hx e (by simp [he])) (c.set n (rd c (n : Int) - 1)) (by simpa using hc) (by
      intro i hi
      have := h i hi
      rw [List.count_cons] at this
      by_cases e : n = i
      · subst e
        rw [show c.set n (rd c (n : Int) - 1) = c.set ((n : Int)).toNat (rd c (n : Int) - 1) from rfl, rd_set_self c (n : Int) _ (by omega) (by omega)]
        simp at this; omega
      · rw [show c.set n (rd c (n : Int) - 1) = c.set ((n : Int)).toNat (rd c (n : Int) - 1) from rfl, rd_set_ne c (n : Int) _ _ (by omega) (by omega) (by omega)]
        rw [if_neg (by simp; omega)] at this; omega)
    rw [dec_sum c n hlt] at h1
    simp only [List.length_cons]; omega
theorem Rank_ev (x : List Int) (hc : chkAll x = 0) : ∃ c : List Int, c.length = 7 ∧ (∀ i : Nat, i < 7 → rd c (i : Int) = (x.count (i : Int) : Int)) ∧ ∃ i : Nat, ∃ h : i < (pl x.length c).length, (pl x.length c)[i] = x ∧ Ev (fun k => index_Rank.f k x) ((i : Int), 0) := by
  obtain ⟨h16, hv⟩ := chkAll_zero hc
  obtain ⟨c, h1, h2, h3⟩ := counts_ev x h16 hv
  have hp : ∀ y ∈ c, 0 ≤ y := by
    intro y hy
    obtain ⟨i, hi, rfl⟩ := List.getElem_of_mem hy
    have := h3 i (by omega)
    rw [rd_eq c i hi] at this
    omega
  have hs := counts_sum x hv c h2 h3
  have hle := pl_le x.length c (by omega) hp hs h16
  obtain ⟨i, hi, hie, hev⟩ := rank_l0 x hv h16 x.length 0 c 0 (by omega) h2 hp hs (fun i hi => by rw [List.drop_zero]; exact (h3 i hi).symm) (by omega) (by omega)
  refine ⟨c, h2, h3, i, hi, hie, ?_⟩
  unfold index_Rank.f
  refine Ev.bind1 (check_ev x (by omega)) (Ev.yes hc (Ev.bind1 h1 ?_))
  rw [Int.zero_add] at hev
  exact hev
theorem IndexRanks : gamehalllaw2_IndexRanks.Pure := by
  intro x n hm0 hb0 hw0 hn
  have hl0 : x.length ≤ 100000000000000 := by omega
  apply Ev.rounds
  unfold gamehalllaw2_IndexRanks.f
  refine Ev.bind1 fact_ev (Ev.yes rfl ?_)
  by_cases hc : chkAll x = 0
  · obtain ⟨h16, hv⟩ := chkAll_zero hc
    obtain ⟨c, hc7, hcnt, i, hi, hie, hrank⟩ := Rank_ev x hc
    have hnext := Next_ev x hc
    obtain ⟨y, z, hy⟩ : ∃ y z, Ev (fun k => index_Next.f k x) (y, z) := by
      rcases hnext with ⟨_, h⟩ | ⟨_, _, _, _, _, _, _, _, _, h⟩
      · exact ⟨_, _, h⟩
      · exact ⟨_, _, h⟩
    refine Ev.bind1 hrank (Ev.bind1 hy (Ev.bind1 (cells_ev x hl0) (Ev.yes hc (Ev.ite (fun h => Ev.now _) (fun h6 => Ev.yes (by omega) ?_)))))
    have h7 : ∀ i : Nat, i < 7 → rd (List.replicate 7 0) (i : Int) = 0 := by decide
    refine law_counts x hv h16 n _ 0 z y true (fun c' hc7' hcnt' => ?_) x.length 0 _ (by omega) rfl (fun i hi => by rw [h7 i hi]; simp)
    have hcc : c' = c := by
      apply List.ext_getElem (by omega)
      intro j h1 h2
      have := hcnt j (by omega)
      have := hcnt' j (by omega)
      rw [rd_eq _ j h1] at this
      rw [rd_eq _ j h2] at *
      omega
    subst hcc
    have hp : ∀ y ∈ c', 0 ≤ y := by
      intro y hy
      obtain ⟨i, hi, rfl⟩ := List.getElem_of_mem hy
      have := hcnt i (by omega)
      rw [rd_eq c' i hi] at this
      omega
    have hs := counts_sum x hv c' hc7 hcnt
    have hle := pl_le x.length c' (by omega) hp hs h16
    have hsz : ∀ p ∈ pl x.length c', p.length ≤ 100000000000000 := fun p hp' => by rw [pl_size _ _ p hp']; omega
    refine Ev.bind1 (places_ev x.length (by omega) c' (by omega) hp hs) ?_
    refine Ev.bind1 (a := (i : Int)) ?_ ?_
    · unfold slices_IndexFunc_of_gamehalllaw2_IndexRanks_1.f
      refine indexf_l0 (pl x.length c') x hsz (by omega) i hi hie (fun j hj hji he => ?_) i 0 (by omega)
      have := pl_inj j i hj hi (by rw [he, hie])
      omega
    · refine Ev.yes rfl ?_
      rw [show ((i : Int) != (i : Int)) = false by simp]
      refine Ev.step (fun k => gamehalllaw2_IndexRanks.j1.eq_2 _ _ _ _ _ _ _ k) (Ev.no (by simp) ?_)
      have j2 : Ev (fun k => gamehalllaw2_IndexRanks.j2 k n c' (pl x.length c')) true := by
        obtain ⟨hu1, hu2⟩ := unrank_ev x.length h16 c' n hc7 hp hs
        refine Ev.step (fun k => gamehalllaw2_IndexRanks.j2.eq_2 _ _ _ k) ?_
        by_cases h1 : n < 0
        · exact Ev.bind1 (hu1 (.inl h1)) (Ev.yes h1 (Ev.yes rfl (Ev.now' (by simp))))
        · by_cases h2 : n ≥ ((pl x.length c').length : Int)
          · exact Ev.bind1 (hu1 (.inr h2)) (Ev.no h1 (Ev.yes h2 (Ev.yes rfl (Ev.now' (by simp)))))
          · obtain ⟨m, rfl⟩ : ∃ m : Nat, n = (m : Int) := ⟨n.toNat, by omega⟩
            have hm : m < (pl x.length c').length := by omega
            refine Ev.bind1 (hu2 m rfl hm) (Ev.no h1 (Ev.no h2 (Ev.yes rfl (Ev.yes (by omega) (Ev.yes (by omega) ?_)))))
            rw [rdL _ m hm]
            exact Ev.bind1 (equal_ev _ _ (hsz _ (List.getElem_mem hm))) (Ev.now' (by simp))
      rw [w64s (by omega)]
      rcases hnext with ⟨hd, h⟩ | ⟨p, a, d, u, v, e, hd, had, hv2, h⟩
      · obtain ⟨hy1, hy2⟩ : y = [] ∧ z = 8 := by
          obtain ⟨k1, h1⟩ := h
          obtain ⟨k2, h2⟩ := hy
          have e1 := h1 (k1 + k2) (by omega)
          have e2 := h2 (k1 + k2) (by omega)
          rw [e1] at e2
          simpa [eq_comm] using e2
        subst hy1 hy2
        have := pl_last hp hs x hd i hi hie
        exact Ev.no (by omega) (Ev.yes rfl (Ev.no (by simp) j2))
      · obtain ⟨hy1, hy2⟩ : y = p ++ d :: (u ++ a :: v).reverse ∧ z = 0 := by
          obtain ⟨k1, h1⟩ := h
          obtain ⟨k2, h2⟩ := hy
          have e1 := h1 (k1 + k2) (by omega)
          have e2 := h2 (k1 + k2) (by omega)
          rw [e1] at e2
          simp only [Option.some.injEq, Prod.mk.injEq] at e2
          exact ⟨e2.1.symm, e2.2.symm⟩
        subst hy1 hy2
        obtain ⟨hi1, hie1⟩ := pl_next hp hs a d p u v hd had hv2 i hi (by rw [hie, e])
        refine Ev.yes (by omega) (Ev.yes rfl (Ev.yes (by omega) ?_))
        rw [rdL _ (i + 1) hi1, hie1]
        have hlen : (p ++ d :: (u ++ a :: v).reverse).length ≤ 100000000000000 := by
          have : x.length = p.length + u.length + v.length + 2 := by rw [e]; simp; omega
          simp; omega
        exact Ev.bind1 (equal_ev _ _ hlen) (Ev.yes (by simp) j2)
  · have hr : Ev (fun k => index_Rank.f k x) (0, chkAll x) := by
      unfold index_Rank.f
      exact Ev.bind1 (check_ev x hl0) (Ev.no hc (Ev.now _))
    have hx : Ev (fun k => index_Next.f k x) ([], chkAll x) := by
      unfold index_Next.f
      exact Ev.bind1 (check_ev x hl0) (Ev.no hc (Ev.now _))
    exact Ev.bind1 hr (Ev.bind1 hx (Ev.bind1 (cells_ev x hl0) (Ev.no hc (Ev.yes rfl (Ev.yes rfl (Ev.yes rfl (Ev.now' (by simp))))))))
end Go.Proofs.Ytejcniaepjahbaa.Pure
