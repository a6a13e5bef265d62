/- Lemmas on the functions of package index and on the reference's list of all placements: checks, counts, the number of placements. -/
import Derived.Test.YtejcniaepjahbaaGRx7
import Derived.Test.YtejcniaepjahbaaAid
set_option linter.unusedSimpArgs false
namespace Go.Proofs.Ytejcniaepjahbaa.Pure
open Go.RowKit Go.Proofs.Ytejcniaepjahbaa.GR Go.Proofs.YtejcniaepjahbaaW.PrintWords Go.Proofs.YtejcniaepjahbaaW.PrintLast Go.Proofs.Ytejcniaepjahbaa.Aid

theorem fact_ev : Ev (fun k => gamehalllaw2_indexFact.f k) true := Ev.of gamehalllaw2_indexFact.mono (k := 60) (by decide +kernel)

/-! ### checks -/
def chk : List Int → Int
  | [] => 0
  | x :: r => if x < 0 then 4 else if x > 6 then 4 else chk r
def chkAll (l : List Int) : Int := if (l.length : Int) > 16 then 2 else chk l
theorem chk_zero {l : List Int} (h : chk l = 0) : ∀ x ∈ l, 0 ≤ x ∧ x ≤ 6 := by
  induction l with
  | nil => simp
  | cons x r ih =>
    simp only [chk] at h
    split at h
    · omega
    · split at h
      · omega
      · intro y hy
        rcases List.mem_cons.1 hy with rfl | hy
        · omega
        · exact ih h y hy
theorem check_l0 (l : List Int) (hl : l.length ≤ 100000000000000) (d : Nat) : ∀ j, j + d = l.length → Ev (fun k => index_Check.l0 k l (l.length : Int) (j : Int)) (chk (l.drop j)) := by
  induction d with
  | zero =>
    intro j hj
    refine Ev.step (fun k => index_Check.l0.eq_2 _ _ _ k) ?_
    refine Ev.no (by omega) ?_
    rw [show j = l.length by omega, List.drop_length]
    exact Ev.now _
  | succ d ih =>
    intro j hj
    have hlt : j < l.length := by omega
    refine Ev.step (fun k => index_Check.l0.eq_2 _ _ _ k) ?_
    refine Ev.yes (by omega) (Ev.yes (by omega) (Ev.yes (by omega) ?_))
    rw [drop_rd l j hlt]
    refine Ev.ite (fun h => Ev.now' (by simp [chk, h])) (fun h1 => Ev.ite (fun h => Ev.now' (by simp [chk, h])) (fun h2 => ?_))
    rw [w64s (by omega), show chk (rd l ↑j :: List.drop (j + 1) l) = chk (List.drop (j + 1) l) by simp [chk, h1, h2]]
    exact ih (j + 1) (by omega)
theorem check_ev (l : List Int) (hl : l.length ≤ 100000000000000) : Ev (fun k => index_Check.f k l) (chkAll l) := by
  unfold index_Check.f chkAll
  exact Ev.ite (fun h => Ev.now' (by simp [h])) (fun h => by rw [if_neg h]; exact check_l0 l hl l.length 0 (by omega))
theorem in_eq (a b c : Int) : gamehallref2_in.f a b c = some (decide (b ≤ a ∧ a ≤ c)) := by
  unfold gamehallref2_in.f
  by_cases h : a ≥ b
  · rw [if_pos h]; simp; omega
  · rw [if_neg h]; simp; omega
theorem cells_l0 (l : List Int) (hl : l.length ≤ 100000000000000) (d : Nat) : ∀ j, j + d = l.length → Ev (fun k => gamehallref2_CellsError.l0 k l (l.length : Int) (j : Int)) (chk (l.drop j)) := by
  induction d with
  | zero =>
    intro j hj
    refine Ev.step (fun k => gamehallref2_CellsError.l0.eq_2 _ _ _ k) ?_
    refine Ev.no (by omega) ?_
    rw [show j = l.length by omega, List.drop_length]
    exact Ev.now _
  | succ d ih =>
    intro j hj
    have hlt : j < l.length := by omega
    refine Ev.step (fun k => gamehallref2_CellsError.l0.eq_2 _ _ _ k) ?_
    refine Ev.yes (by omega) (Ev.yes (by omega) (Ev.yes (by omega) ?_))
    rw [drop_rd l j hlt]
    refine Ev.opt_bind (in_eq _ _ _) ?_
    refine Ev.ite (fun h => ?_) (fun h => Ev.now' ?_)
    · have h' := of_decide_eq_true h
      rw [w64s (by omega), show chk (rd l ↑j :: List.drop (j + 1) l) = chk (List.drop (j + 1) l) by simp only [chk]; rw [if_neg (by omega), if_neg (by omega)]]
      exact ih (j + 1) (by omega)
    · have h' : ¬ (0 ≤ rd l (j : Int) ∧ rd l (j : Int) ≤ 6) := fun z => h (decide_eq_true z)
      simp only [chk]
      by_cases h2 : rd l (j : Int) < 0
      · rw [if_pos h2]
      · rw [if_neg h2, if_pos (by omega)]
theorem cells_ev (l : List Int) (hl : l.length ≤ 100000000000000) : Ev (fun k => gamehallref2_CellsError.f k l) (chkAll l) := by
  unfold gamehallref2_CellsError.f chkAll
  exact Ev.ite (fun h => Ev.now' (by simp [h])) (fun h => by rw [if_neg h]; exact cells_l0 l hl l.length 0 (by omega))
def chkc : Int → List Int → Int
  | s, [] => if s > 16 then 2 else 0
  | s, x :: r => if x < 0 then 4 else if x > 16 then 4 else chkc (s + x) r
def chkcAll (l : List Int) : Int := if (l.length : Int) = 7 then chkc 0 l else 3
theorem chkc_zero {l : List Int} : ∀ {s : Int}, chkc s l = 0 → (∀ x ∈ l, 0 ≤ x ∧ x ≤ 16) ∧ s + l.sum ≤ 16 := by
  induction l with
  | nil => intro s h; simp only [chkc] at h; split at h <;> simp_all
  | cons x r ih =>
    intro s h
    simp only [chkc] at h
    split at h
    · omega
    · split at h
      · omega
      · obtain ⟨h1, h2⟩ := ih h
        refine ⟨fun y hy => ?_, by simp only [List.sum_cons]; omega⟩
        rcases List.mem_cons.1 hy with rfl | hy
        · omega
        · exact h1 y hy
theorem ccheck_l0 (l : List Int) (hl : l.length ≤ 7) (d : Nat) : ∀ (j : Nat) (s : Int), j + d = l.length → 0 ≤ s → s ≤ 16 * j → Ev (fun k => index_CheckCounts.l0 k s l (l.length : Int) (j : Int)) (chkc s (l.drop j)) := by
  induction d with
  | zero =>
    intro j s hj h0 h1
    refine Ev.step (fun k => index_CheckCounts.l0.eq_2 _ _ _ _ k) ?_
    refine Ev.no (by omega) ?_
    rw [show j = l.length by omega, List.drop_length]
    exact Ev.ite (fun h => Ev.now' (by simp [chkc, h])) (fun h => Ev.now' (by simp [chkc, h]))
  | succ d ih =>
    intro j s hj h0 h1
    have hlt : j < l.length := by omega
    refine Ev.step (fun k => index_CheckCounts.l0.eq_2 _ _ _ _ k) ?_
    refine Ev.yes (by omega) (Ev.yes (by omega) (Ev.yes (by omega) ?_))
    rw [drop_rd l j hlt]
    refine Ev.ite (fun h => Ev.now' (by simp [chkc, h])) (fun h2 => Ev.ite (fun h => Ev.now' (by simp [chkc, h])) (fun h3 => ?_))
    rw [w64s (by omega), w64 (by omega) (by omega), show chkc s (rd l ↑j :: List.drop (j + 1) l) = chkc (s + rd l ↑j) (List.drop (j + 1) l) by simp [chkc, h2, h3]]
    exact ih (j + 1) _ (by omega) (by omega) (by omega)
theorem ccheck_ev (l : List Int) : Ev (fun k => index_CheckCounts.f k l) (chkcAll l) := by
  unfold index_CheckCounts.f chkcAll
  exact Ev.ite (fun h => by rw [if_pos h]; exact ccheck_l0 l (by omega) l.length 0 0 (by omega) (by omega) (by omega)) (fun h => Ev.now' (by simp [h]))
theorem chkcAll_zero {l : List Int} (h : chkcAll l = 0) : l.length = 7 ∧ (∀ x ∈ l, 0 ≤ x ∧ x ≤ 16) ∧ l.sum ≤ 16 := by
  unfold chkcAll at h
  split at h
  · have := chkc_zero h
    exact ⟨by omega, this.1, by omega⟩
  · omega
theorem chkAll_zero {l : List Int} (h : chkAll l = 0) : l.length ≤ 16 ∧ ∀ x ∈ l, 0 ≤ x ∧ x ≤ 6 := by
  unfold chkAll at h
  split at h
  · omega
  · exact ⟨by omega, chk_zero h⟩

/-! ### counts -/
theorem rd_set_self (l : List Int) (i : Int) (v : Int) (h0 : 0 ≤ i) (h : i < l.length) : rd (l.set i.toNat v) i = v := by
  simp [rd, List.getD_eq_getElem?_getD, List.getElem?_set, show i.toNat < l.length by omega]
theorem rd_set_ne (l : List Int) (i j : Int) (v : Int) (h0 : 0 ≤ i) (h1 : 0 ≤ j) (hne : i ≠ j) : rd (l.set i.toNat v) j = rd l j := by
  simp [rd, List.getD_eq_getElem?_getD, List.getElem?_set, show i.toNat ≠ j.toNat by omega]
theorem counts_l0 (l : List Int) (hl : l.length ≤ 16) (hv : ∀ x ∈ l, 0 ≤ x ∧ x ≤ 6) (d : Nat) : ∀ (j : Nat) (c : List Int), j + d = l.length → c.length = 7 → (∀ i : Nat, i < 7 → rd c (i : Int) = ((l.take j).count (i : Int) : Int)) →
    ∃ c', Ev (fun k => index_counts.l0 k c l (l.length : Int) (j : Int)) c' ∧ c'.length = 7 ∧ ∀ i : Nat, i < 7 → rd c' (i : Int) = (l.count (i : Int) : Int) := by
  induction d with
  | zero =>
    intro j c hj hc h
    refine ⟨c, ?_, hc, ?_⟩
    · refine Ev.step (fun k => index_counts.l0.eq_2 _ _ _ _ k) ?_
      exact Ev.no (by omega) (Ev.now _)
    · rwa [List.take_of_length_le (by omega)] at h
  | succ d ih =>
    intro j c hj hc h
    have hlt : j < l.length := by omega
    have hx := hv _ (mem_rd l j hlt)
    have hcn : (l.take j).count (rd l (j : Int)) ≤ 16 := Nat.le_trans List.count_le_length (by simp; omega)
    have hr := h (rd l (j : Int)).toNat (by omega)
    rw [Int.toNat_of_nonneg hx.1] at hr
    obtain ⟨c', h1, h2, h3⟩ := ih (j + 1) (c.set (rd l (j : Int)).toNat (rd c (rd l (j : Int)) + 1)) (by omega) (by simpa using hc) (by
      intro i hi
      rw [rd_eq l j hlt] at hr hx hcn ⊢
      rw [List.take_succ_eq_append_getElem hlt, List.count_append]
      by_cases e : l[j] = (i : Int)
      · rw [e, rd_set_self _ _ _ (by omega) (by omega), ← e, hr]
        simp
      · rw [rd_set_ne _ _ _ _ (by omega) (by omega) e, h i hi]
        simp [List.count_cons, e])
    refine ⟨c', ?_, h2, h3⟩
    refine Ev.step (fun k => index_counts.l0.eq_2 _ _ _ _ k) ?_
    refine Ev.yes (by omega) (Ev.yes (by omega) (Ev.yes (by omega) (Ev.yes (by omega) (Ev.yes (by omega) ?_))))
    rw [w64s (by omega), w64 (by omega) (by omega)]
    exact h1
theorem counts_ev (l : List Int) (hl : l.length ≤ 16) (hv : ∀ x ∈ l, 0 ≤ x ∧ x ≤ 6) :
    ∃ c, Ev (fun k => index_counts.f k l) c ∧ c.length = 7 ∧ ∀ i : Nat, i < 7 → rd c (i : Int) = (l.count (i : Int) : Int) := by
  obtain ⟨c, h1, h2, h3⟩ := counts_l0 l hl hv l.length 0 (List.replicate 7 0) (by omega) rfl (by
    have h7 : ∀ i : Nat, i < 7 → rd (List.replicate 7 0) (i : Int) = 0 := by decide
    intro i hi
    rw [h7 i hi]
    simp)
  refine ⟨c, ?_, h2, h3⟩
  unfold index_counts.f
  exact Ev.yes (by omega) h1

/-! ### numbers of ways -/
def ch : Nat → Nat → Nat
  | _, 0 => 1
  | 0, _ + 1 => 0
  | n + 1, k + 1 => ch n k + ch n (k + 1)
theorem ch_mul (n : Nat) : ∀ k, (n + 1) * ch n k = (k + 1) * ch (n + 1) (k + 1) := by
  induction n with
  | zero => intro k; cases k <;> simp [ch]
  | succ n ih =>
    intro k
    rw [show ch (n + 1 + 1) (k + 1) = ch (n + 1) k + ch (n + 1) (k + 1) from rfl, Nat.mul_add, ← ih k]
    cases k with
    | zero => simp [ch]; omega
    | succ k =>
      rw [Nat.add_mul (k + 1) 1, ← ih k, show ch (n + 1) (k + 1) = ch n k + ch n (k + 1) from rfl]
      simp only [Nat.mul_add, Nat.add_mul]; omega
def fac : Nat → Nat
  | 0 => 1
  | n + 1 => (n + 1) * fac n
theorem fac_pos (n : Nat) : 0 < fac n := by
  induction n with
  | zero => decide
  | succ n ih => exact Nat.mul_pos (by omega) ih
theorem fac_le {m n : Nat} (h : m ≤ n) : fac m ≤ fac n := by
  induction h with
  | refl => exact Nat.le_refl _
  | step h ih => exact Nat.le_trans ih (Nat.le_mul_of_pos_left _ (by omega))
theorem ch_fac (p n : Nat) : ch (p + n) n * (fac p * fac n) = fac (p + n) := by
  induction n with
  | zero => cases p <;> simp [ch, fac]
  | succ n ih =>
    have h := ch_mul (p + n) n
    show ch (p + n + 1) (n + 1) * (fac p * ((n + 1) * fac n)) = (p + n + 1) * fac (p + n)
    rw [← ih]
    calc ch (p + n + 1) (n + 1) * (fac p * ((n + 1) * fac n)) = ((n + 1) * ch (p + n + 1) (n + 1)) * (fac p * fac n) := by
          simp only [Nat.mul_comm, Nat.mul_left_comm, Nat.mul_assoc]
      _ = _ := by rw [← h, Nat.mul_assoc]
/-- The number of ways to place l, o ways and p places before. -/
def ways : Nat → Nat → List Nat → Nat
  | _, o, [] => o
  | p, o, n :: r => ways (p + n) (o * ch (p + n) n) r
def facs : List Nat → Nat
  | [] => 1
  | n :: r => fac n * facs r
theorem facs_pos (l : List Nat) : 0 < facs l := by
  induction l with
  | nil => decide
  | cons n r ih => exact Nat.mul_pos (fac_pos n) ih
theorem ways_fac (l : List Nat) : ∀ p o, ways p o l * (facs l * fac p) = o * fac (p + l.sum) := by
  induction l with
  | nil => intro p o; simp [ways, facs]
  | cons n r ih =>
    intro p o
    have h := ih (p + n) (o * ch (p + n) n)
    have h2 := ch_fac p n
    simp only [ways, facs, List.sum_cons]
    rw [show p + (n + r.sum) = p + n + r.sum by omega]
    have : fac (p + n) * (ways (p + n) (o * ch (p + n) n) r * (fac n * facs r * fac p)) = fac (p + n) * (o * fac (p + n + r.sum)) := by
      calc _ = (ways (p + n) (o * ch (p + n) n) r * (facs r * fac (p + n))) * (fac p * fac n) := by
            simp only [Nat.mul_comm, Nat.mul_left_comm, Nat.mul_assoc]
        _ = (ch (p + n) n * (fac p * fac n)) * (o * fac (p + n + r.sum)) := by
            rw [h]; simp only [Nat.mul_comm, Nat.mul_left_comm, Nat.mul_assoc]
        _ = _ := by rw [h2]
    exact Nat.eq_of_mul_eq_mul_left (fac_pos _) this
theorem ways_mono (l : List Nat) : ∀ p o, 0 < o → o ≤ ways p o l ∧ 0 < ways p o l := by
  have hch : ∀ p n, 0 < ch (p + n) n := by
    intro p n
    refine Nat.pos_of_ne_zero fun e => ?_
    have := ch_fac p n
    rw [e, Nat.zero_mul] at this
    exact Nat.ne_of_gt (fac_pos _) this.symm
  induction l with
  | nil => intro p o h; simp [ways, h]
  | cons n r ih =>
    intro p o h
    have := ih (p + n) (o * ch (p + n) n) (Nat.mul_pos h (hch p n))
    exact ⟨Nat.le_trans (Nat.le_mul_of_pos_right _ (hch p n)) this.1, this.2⟩
theorem fac16 : fac 16 = 20922789888000 := by decide +kernel
theorem ch_grow (p i n : Nat) (h : i ≤ n) : ch (p + i) i ≤ ch (p + n) n := by
  induction h with
  | refl => exact Nat.le_refl _
  | @step m h ih =>
    refine Nat.le_trans ih ?_
    show ch (p + m) m ≤ ch (p + m + 1) (m + 1)
    exact Nat.le_add_right _ _
/-- The inner loop of 'many': from i on, n of a kind, p places before them. -/
theorem many_l1 (l : List Int) (c : Int) (n p o B : Nat) (hn : p + n ≤ 16) (ho : o * ch (p + n) n ≤ B) (hB : B ≤ 100000000000000) (d : Nat) : ∀ (i : Nat), i + d = n → ∀ (r : Int),
    Ev (fun k => index_many.l0 k ((o * ch (p + n) n : Nat) : Int) ((p + n : Nat) : Int) l (l.length : Int) (wrap64 (c + 1))) r →
    Ev (fun k => index_many.l1 k ((o * ch (p + i) i : Nat) : Int) ((p + i : Nat) : Int) (n : Int) ((i + 1 : Nat) : Int) l (l.length : Int) c) r := by
  induction d with
  | zero =>
    intro i hi r h
    refine Ev.step (fun k => index_many.l1.eq_2 _ _ _ _ _ _ _ k) ?_
    refine Ev.no (by omega) ?_
    obtain rfl : i = n := by omega
    exact h
  | succ d ih =>
    intro i hi r h
    refine Ev.step (fun k => index_many.l1.eq_2 _ _ _ _ _ _ _ k) ?_
    refine Ev.yes (by omega) (Ev.no (by omega) ?_)
    have hm := ch_mul (p + i) i
    have e0 : ((p + i : Nat) : Int) + 1 = ((p + (i + 1) : Nat) : Int) := by omega
    have b1 : o * ch (p + i) i ≤ B := Nat.le_trans (Nat.mul_le_mul_left _ (ch_grow p i n (by omega))) ho
    have b2 : o * ch (p + (i + 1)) (i + 1) ≤ B := Nat.le_trans (Nat.mul_le_mul_left _ (ch_grow p (i + 1) n (by omega))) ho
    obtain ⟨x, hx⟩ : ∃ x, x = o * ch (p + i) i := ⟨_, rfl⟩
    obtain ⟨y, hy⟩ : ∃ y, y = o * ch (p + (i + 1)) (i + 1) := ⟨_, rfl⟩
    have e1 : x * (p + (i + 1)) = (i + 1) * y := by
      rw [hx, hy]
      calc (o * ch (p + i) i) * (p + (i + 1)) = o * ((p + i + 1) * ch (p + i) i) := by rw [show p + (i + 1) = p + i + 1 by omega]; simp only [Nat.mul_comm, Nat.mul_left_comm, Nat.mul_assoc]
        _ = o * ((i + 1) * ch (p + i + 1) (i + 1)) := by rw [hm]
        _ = _ := by rw [show p + (i + 1) = p + i + 1 by omega]; simp only [Nat.mul_left_comm]
    have b3 : x * (p + (i + 1)) ≤ 100000000000000 * 17 := Nat.mul_le_mul (by omega) (by omega)
    have e2 : ((x : Nat) : Int) * ((p + (i + 1) : Nat) : Int) = ((i + 1 : Nat) : Int) * ((y : Nat) : Int) := by exact_mod_cast e1
    have b4 : ((x * (p + (i + 1)) : Nat) : Int) = ((x : Nat) : Int) * ((p + (i + 1) : Nat) : Int) := by push_cast; rfl
    rw [← hx, e0]
    rw [← hy] at b2
    rw [← hx] at b1
    rw [w64 (i := ((p + (i + 1) : Nat) : Int)) (by omega) (by omega), w64 (i := (x : Int) * ((p + (i + 1) : Nat) : Int)) (by rw [← b4]; omega) (by rw [← b4]; omega), e2, Int.mul_tdiv_cancel_left _ (by omega), w64 (i := (y : Int)) (by omega) (by omega), w64 (i := ((i + 1 : Nat) : Int) + 1) (by omega) (by omega), show ((i + 1 : Nat) : Int) + 1 = ((i + 1 + 1 : Nat) : Int) by omega, hy]
    exact ih (i + 1) (by omega) r h
theorem many_l0 (l : List Int) (L : List Nat) (hL : l = L.map fun (n : Nat) => (n : Int)) (hlen : l.length ≤ 7) (d : Nat) : ∀ (j p o : Nat), j + d = l.length → p + (L.drop j).sum ≤ 16 → ways p o (L.drop j) ≤ 100000000000000 → 0 < o →
    Ev (fun k => index_many.l0 k (o : Int) (p : Int) l (l.length : Int) (j : Int)) ((ways p o (L.drop j) : Nat) : Int) := by
  have hl2 : L.length = l.length := by rw [hL]; simp
  induction d with
  | zero =>
    intro j p o hj hp hw h0
    refine Ev.step (fun k => index_many.l0.eq_2 _ _ _ _ _ k) ?_
    refine Ev.no (by omega) ?_
    rw [show j = L.length by omega, List.drop_length]
    exact Ev.now _
  | succ d ih =>
    intro j p o hj hp hw h0
    have hlt : j < l.length := by omega
    have hltL : j < L.length := by omega
    rw [List.drop_eq_getElem_cons hltL, List.sum_cons] at hp
    rw [List.drop_eq_getElem_cons hltL] at hw ⊢
    have hr : rd l (j : Int) = ((L[j] : Nat) : Int) := by rw [rd_eq l j hlt]; simp [hL]
    simp only [ways] at hw ⊢
    refine Ev.step (fun k => index_many.l0.eq_2 _ _ _ _ _ k) ?_
    refine Ev.yes (by omega) (Ev.yes (by omega) (Ev.yes (by omega) ?_))
    rw [hr]
    have hop : 0 < o * ch (p + L[j]) L[j] := by
      refine Nat.mul_pos h0 (Nat.pos_of_ne_zero fun e => ?_)
      have := ch_fac p L[j]
      rw [e, Nat.zero_mul] at this
      exact Nat.ne_of_gt (fac_pos _) this.symm
    have h := many_l1 l (j : Int) L[j] p o (o * ch (p + L[j]) L[j]) (by omega) (Nat.le_refl _) (Nat.le_trans (ways_mono _ _ _ hop).1 hw) L[j] 0 (by omega) ((ways (p + L[j]) (o * ch (p + L[j]) L[j]) (L.drop (j + 1)) : Nat) : Int) (by
      rw [w64s (by omega)]
      exact ih (j + 1) _ _ (by omega) (by omega) hw hop)
    simpa [ch] using h
theorem ways_le (L : List Nat) (h : L.sum ≤ 16) : ways 0 1 L ≤ 20922789888000 := by
  have h1 := ways_fac L 0 1
  have h2 : ways 0 1 L ≤ ways 0 1 L * (facs L * fac 0) := Nat.le_mul_of_pos_right _ (Nat.mul_pos (facs_pos L) (fac_pos 0))
  rw [h1, Nat.one_mul, Nat.zero_add] at h2
  exact Nat.le_trans h2 (Nat.le_trans (fac_le h) (by rw [fac16]; omega))
theorem many_ev (L : List Nat) (hlen : L.length ≤ 7) (h : L.sum ≤ 16) : Ev (fun k => index_many.f k (L.map fun (n : Nat) => (n : Int))) ((ways 0 1 L : Nat) : Int) := by
  unfold index_many.f
  have := many_l0 _ L rfl (by simpa using hlen) L.length 0 0 1 (by simp) (by simpa using h) (by have := ways_le L h; rw [List.drop_zero]; omega) (by omega)
  simpa using this
end Go.Proofs.Ytejcniaepjahbaa.Pure
