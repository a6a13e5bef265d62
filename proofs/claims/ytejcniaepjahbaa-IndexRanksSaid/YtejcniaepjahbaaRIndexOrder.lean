/- The list of all placements is in strict lexicographic order, and holds each placement with the counts: which one follows which. -/
import Derived.Test.YtejcniaepjahbaaRIndexPlaces
set_option linter.unusedSimpArgs false
namespace Go.Proofs.Ytejcniaepjahbaa.Pure
open Go.RowKit Go.Proofs.Ytejcniaepjahbaa.GR Go.Proofs.YtejcniaepjahbaaW.PrintWords Go.Proofs.YtejcniaepjahbaaW.PrintLast Go.Proofs.Ytejcniaepjahbaa.Aid

def lt : List Int → List Int → Prop
  | x :: xs, y :: ys => x < y ∨ (x = y ∧ lt xs ys)
  | _, _ => False
theorem lt_asymm : ∀ x y : List Int, lt x y → ¬ lt y x
  | [], _, h => by simp [lt] at h
  | _ :: _, [], h => by simp [lt] at h
  | a :: x, b :: y, h => by
    simp only [lt] at h ⊢
    have := lt_asymm x y
    rintro (h2 | ⟨h2, h3⟩)
    · omega
    · rcases h with h | ⟨_, h⟩
      · omega
      · exact this h h3
theorem lt_irrefl (x : List Int) : ¬ lt x x := fun h => lt_asymm x x h h
theorem lt_tri : ∀ x y : List Int, x.length = y.length → lt x y ∨ x = y ∨ lt y x
  | [], [], _ => by simp
  | [], _ :: _, h => by simp at h
  | _ :: _, [], h => by simp at h
  | a :: x, b :: y, h => by
    have := lt_tri x y (by simpa using h)
    simp only [lt, List.cons.injEq]
    rcases Int.lt_trichotomy a b with h1 | h1 | h1
    · exact .inl (.inl h1)
    · subst h1
      rcases this with h2 | h2 | h2
      · exact .inl (.inr ⟨rfl, h2⟩)
      · exact .inr (.inl ⟨rfl, h2⟩)
      · exact .inr (.inr (.inr ⟨rfl, h2⟩))
    · exact .inr (.inr (.inl h1))

theorem frm_pairwise {α : Type} (R : α → α → Prop) (F : Nat → List α) (h1 : ∀ c, (F c).Pairwise R) (h2 : ∀ c c' x y, c < c' → x ∈ F c → y ∈ F c' → R x y) (d : Nat) : ∀ c, (frm F c d).Pairwise R := by
  induction d with
  | zero => intro c; simp [frm]
  | succ d ih =>
    intro c
    simp only [frm]
    rw [List.pairwise_append]
    refine ⟨h1 c, ih _, fun x hx y hy => ?_⟩
    obtain ⟨i, hi, _, h⟩ := mem_frm _ _ _ _ hy
    exact h2 c i x y (by omega) hx h
def blk (s : Nat) (l : List Int) (c : Nat) : List (List Int) := if rd l (c : Int) = 0 then [] else (pl s (l.set c (rd l (c : Int) - 1))).map (fun p => (c : Int) :: p)
theorem pl_succ (s : Nat) (l : List Int) : pl (s + 1) l = frm (blk s l) 0 l.length := rfl
theorem mem_blk {s : Nat} {l : List Int} {c : Nat} {x : List Int} (h : x ∈ blk s l c) : ¬ rd l (c : Int) = 0 ∧ ∃ y, x = (c : Int) :: y ∧ y ∈ pl s (l.set c (rd l (c : Int) - 1)) := by
  unfold blk at h
  split at h
  · simp at h
  · rename_i h0
    obtain ⟨y, hy, rfl⟩ := List.mem_map.1 h
    exact ⟨h0, y, rfl, hy⟩
theorem pl_sorted (s : Nat) : ∀ l, (pl s l).Pairwise lt := by
  induction s with
  | zero => intro l; simp [pl]
  | succ s ih =>
    intro l
    rw [pl_succ]
    refine frm_pairwise _ _ (fun c => ?_) (fun c c' x y h hx hy => ?_) _ _
    · unfold blk
      split
      · simp
      · rw [List.pairwise_map]
        exact (ih _).imp (fun h => .inr ⟨rfl, h⟩)
    · obtain ⟨_, x', rfl, _⟩ := mem_blk hx
      obtain ⟨_, y', rfl, _⟩ := mem_blk hy
      exact .inl (by omega)
theorem mem_frm_of {α : Type} (F : Nat → List α) (x : α) (i : Nat) (h : x ∈ F i) (d : Nat) : ∀ c, c ≤ i → i < c + d → x ∈ frm F c d := by
  induction d with
  | zero => intro c h1 h2; omega
  | succ d ih =>
    intro c h1 h2
    simp only [frm, List.mem_append]
    by_cases e : c = i
    · subst e; exact .inl h
    · exact .inr (ih (c + 1) (by omega) (by omega))
/-- What the list holds: the placements with the counts. -/
theorem mem_pl (s : Nat) : ∀ (l : List Int) (x : List Int), (∀ y ∈ l, 0 ≤ y) → l.sum = (s : Int) → (x ∈ pl s l ↔ x.length = s ∧ (∀ e ∈ x, 0 ≤ e ∧ e < l.length) ∧ ∀ c : Nat, c < l.length → (x.count (c : Int) : Int) = rd l (c : Int)) := by
  induction s with
  | zero =>
    intro l x hp hs
    simp only [pl, List.mem_singleton]
    constructor
    · rintro rfl
      refine ⟨rfl, by simp, fun c hc => ?_⟩
      have h1 := hp _ (mem_rd l c hc)
      have h2 := le_sum l hp _ (mem_rd l c hc)
      simp only [List.count_nil]; omega
    · rintro ⟨h, _⟩
      exact List.length_eq_zero_iff.1 h
  | succ s ih =>
    intro l x hp hs
    rw [pl_succ]
    constructor
    · intro h
      obtain ⟨c, _, hc, h⟩ := mem_frm _ _ _ _ h
      obtain ⟨h0, y, rfl, hy⟩ := mem_blk h
      have hlt : c < l.length := by omega
      obtain ⟨h1, h2, h3⟩ := (ih _ y (dec_nonneg l hp c hlt h0) (by rw [dec_sum l c hlt]; omega)).1 hy
      rw [List.length_set] at h2 h3
      refine ⟨by simp [h1], ?_, ?_⟩
      · intro e he
        rcases List.mem_cons.1 he with rfl | he
        · omega
        · exact h2 e he
      · intro i hi
        have := h3 i hi
        rw [List.count_cons]
        by_cases e : c = i
        · subst e
          rw [show l.set c (rd l (c : Int) - 1) = l.set ((c : Int)).toNat (rd l (c : Int) - 1) from rfl, rd_set_self l (c : Int) _ (by omega) (by omega)] at this
          simp; omega
        · rw [show l.set c (rd l (c : Int) - 1) = l.set ((c : Int)).toNat (rd l (c : Int) - 1) from rfl, rd_set_ne l (c : Int) _ _ (by omega) (by omega) (by omega)] at this
          rw [if_neg (by simp; omega)]; omega
    · rintro ⟨h1, h2, h3⟩
      cases x with
      | nil => simp at h1
      | cons a y =>
        have ha := h2 a (by simp)
        obtain ⟨c, rfl⟩ : ∃ c : Nat, a = (c : Int) := ⟨a.toNat, by omega⟩
        have hlt : c < l.length := by omega
        have hc := h3 c hlt
        rw [List.count_cons_self] at hc
        have h0 : ¬ rd l (c : Int) = 0 := by omega
        refine mem_frm_of _ _ c ?_ _ _ (by omega) (by omega)
        unfold blk
        rw [if_neg h0]
        refine List.mem_map.2 ⟨y, ?_, rfl⟩
        refine (ih _ y (dec_nonneg l hp c hlt h0) (by rw [dec_sum l c hlt]; omega)).2 ⟨by simpa using h1, ?_, ?_⟩
        · intro e he; rw [List.length_set]; exact h2 e (by simp [he])
        · intro i hi
          rw [List.length_set] at hi
          have := h3 i hi
          rw [List.count_cons] at this
          by_cases e : c = i
          · subst e
            rw [show l.set c (rd l (c : Int) - 1) = l.set ((c : Int)).toNat (rd l (c : Int) - 1) from rfl, rd_set_self l (c : Int) _ (by omega) (by omega)]
            simp at this; omega
          · rw [show l.set c (rd l (c : Int) - 1) = l.set ((c : Int)).toNat (rd l (c : Int) - 1) from rfl, rd_set_ne l (c : Int) _ _ (by omega) (by omega) (by omega)]
            rw [if_neg (by simp; omega)] at this; omega

/-! ### the next one -/
theorem desc_max : ∀ x z : List Int, x.Pairwise (· ≥ ·) → List.Perm z x → ¬ lt x z
  | [], z, _, _ => by simp [lt]
  | a :: x, [], _, _ => by simp [lt]
  | a :: x, b :: z, hd, hp => by
    rw [List.pairwise_cons] at hd
    simp only [lt]
    rintro (h | ⟨rfl, h⟩)
    · have : b ∈ a :: x := hp.mem_iff.1 (by simp)
      rcases List.mem_cons.1 this with h2 | h2
      · omega
      · have := hd.1 b h2; omega
    · exact desc_max x z hd.2 (List.Perm.cons_inv hp) h
theorem asc_min : ∀ y z : List Int, y.Pairwise (· ≤ ·) → List.Perm z y → ¬ lt z y
  | [], z, _, _ => by cases z <;> simp [lt]
  | a :: x, [], _, _ => by simp [lt]
  | a :: x, b :: z, hd, hp => by
    rw [List.pairwise_cons] at hd
    simp only [lt]
    rintro (h | ⟨rfl, h⟩)
    · have : b ∈ a :: x := hp.mem_iff.1 (by simp)
      rcases List.mem_cons.1 this with h2 | h2
      · omega
      · have := hd.1 b h2; omega
    · exact asc_min x z hd.2 (List.Perm.cons_inv hp) h
theorem next_min (a d : Int) (u v : List Int) (hd : (u ++ d :: v).Pairwise (· ≥ ·)) (had : a < d) (hv : ∀ e ∈ v, e ≤ a) : ∀ (pre z : List Int), List.Perm z (pre ++ a :: (u ++ d :: v)) → lt (pre ++ a :: (u ++ d :: v)) z → ¬ lt z (pre ++ d :: (u ++ a :: v).reverse) := by
  have hasc : ((u ++ a :: v).reverse).Pairwise (· ≤ ·) := by
    rw [List.pairwise_reverse]
    rw [List.pairwise_append, List.pairwise_cons] at hd ⊢
    obtain ⟨h1, ⟨h2, h3⟩, h4⟩ := hd
    refine ⟨h1, ⟨fun e he => hv e he, h3⟩, fun e he f hf => ?_⟩
    have := h4 e he d (by simp)
    rcases List.mem_cons.1 hf with rfl | hf
    · show _ ≤ _; omega
    · exact h4 e he f (by simp [hf])
  intro pre
  induction pre with
  | nil =>
    intro z hp hlt
    cases z with
    | nil => simp [lt] at hlt
    | cons q z =>
      simp only [List.nil_append, lt] at hlt hp ⊢
      rcases hlt with h | ⟨rfl, h⟩
      · have hq : q ∈ a :: (u ++ d :: v) := hp.mem_iff.1 (by simp)
        have hqd : d ≤ q := by
          rcases List.mem_cons.1 hq with h2 | h2
          · omega
          · rcases List.mem_append.1 h2 with h3 | h3
            · exact (List.pairwise_append.1 hd).2.2 q h3 d (by simp)
            · rcases List.mem_cons.1 h3 with h4 | h4
              · omega
              · have := hv q h4; omega
        rintro (h2 | ⟨rfl, h2⟩)
        · omega
        · refine asc_min _ z hasc ?_ h2
          rw [List.perm_iff_count] at hp ⊢
          intro e
          have := hp e
          simp only [List.count_cons, List.count_append, List.count_reverse] at this ⊢
          omega
      · exact absurd h (desc_max _ z hd (List.Perm.cons_inv hp))
  | cons p pre ih =>
    intro z hp hlt
    cases z with
    | nil => simp [lt] at hlt
    | cons q z =>
      simp only [List.cons_append, lt] at hlt hp ⊢
      rcases hlt with h | ⟨rfl, h⟩
      · rintro (h2 | ⟨h2, _⟩) <;> omega
      · rintro (h2 | ⟨_, h2⟩)
        · omega
        · exact ih z (List.Perm.cons_inv hp) h h2
theorem next_lt (a d : Int) (had : a < d) (w w' : List Int) : ∀ pre : List Int, lt (pre ++ a :: w) (pre ++ d :: w')
  | [] => .inl had
  | _ :: pre => .inr ⟨rfl, next_lt a d had w w' pre⟩
theorem pairwise_get {α : Type} {R : α → α → Prop} {l : List α} (h : l.Pairwise R) (i j : Nat) (hi : i < l.length) (hj : j < l.length) (hij : i < j) : R l[i] l[j] := List.pairwise_iff_getElem.1 h i j hi hj hij
theorem pl_perm {s : Nat} {l : List Int} (hp : ∀ y ∈ l, 0 ≤ y) (hs : l.sum = (s : Int)) {x z : List Int} (hx : x ∈ pl s l) (hz : z ∈ pl s l) : List.Perm z x := by
  obtain ⟨h1, h2, h3⟩ := (mem_pl s l x hp hs).1 hx
  obtain ⟨h4, h5, h6⟩ := (mem_pl s l z hp hs).1 hz
  rw [List.perm_iff_count]
  intro e
  by_cases he : 0 ≤ e ∧ e < l.length
  · obtain ⟨c, rfl⟩ : ∃ c : Nat, e = (c : Int) := ⟨e.toNat, by omega⟩
    have := h3 c (by omega)
    have := h6 c (by omega)
    omega
  · rw [List.count_eq_zero.2 (fun h => he (h5 e h)), List.count_eq_zero.2 (fun h => he (h2 e h))]
theorem pl_of_perm {s : Nat} {l : List Int} (hp : ∀ y ∈ l, 0 ≤ y) (hs : l.sum = (s : Int)) {x z : List Int} (hx : x ∈ pl s l) (h : List.Perm z x) : z ∈ pl s l := by
  obtain ⟨h1, h2, h3⟩ := (mem_pl s l x hp hs).1 hx
  refine (mem_pl s l z hp hs).2 ⟨by rw [h.length_eq]; exact h1, fun e he => h2 e (h.mem_iff.1 he), fun c hc => ?_⟩
  rw [h.count_eq]; exact h3 c hc
/-- The place of the next one. -/
theorem pl_next {s : Nat} {l : List Int} (hp : ∀ y ∈ l, 0 ≤ y) (hs : l.sum = (s : Int)) (a d : Int) (pre u v : List Int) (hd : (u ++ d :: v).Pairwise (· ≥ ·)) (had : a < d) (hv : ∀ e ∈ v, e ≤ a) (i : Nat) (hi : i < (pl s l).length) (he : (pl s l)[i] = pre ++ a :: (u ++ d :: v)) :
    ∃ h : i + 1 < (pl s l).length, (pl s l)[i + 1] = pre ++ d :: (u ++ a :: v).reverse := by
  have hx : pre ++ a :: (u ++ d :: v) ∈ pl s l := by rw [← he]; exact List.getElem_mem hi
  have hy : pre ++ d :: (u ++ a :: v).reverse ∈ pl s l := by
    refine pl_of_perm hp hs hx ?_
    rw [List.perm_iff_count]
    intro e
    simp only [List.count_cons, List.count_append, List.count_reverse]
    omega
  obtain ⟨j, hj, hjy⟩ := List.getElem_of_mem hy
  have hlt : lt (pl s l)[i] (pl s l)[j] := by rw [he, hjy]; exact next_lt a d had _ _ pre
  have hsort := pl_sorted s l
  have hij : i < j := by
    rcases Nat.lt_trichotomy i j with h | h | h
    · exact h
    · subst h; exact absurd hlt (lt_irrefl _)
    · exact absurd hlt (lt_asymm _ _ (pairwise_get hsort j i hj hi h))
  refine ⟨by omega, ?_⟩
  by_cases e : j = i + 1
  · subst e; exact hjy
  · have h1 := pairwise_get hsort i (i + 1) hi (by omega) (by omega)
    have h2 := pairwise_get hsort (i + 1) j (by omega) hj (by omega)
    rw [he] at h1
    rw [hjy] at h2
    exact absurd h2 (next_min a d u v hd had hv pre _ (pl_perm hp hs hx (List.getElem_mem _)) h1)
theorem pl_last {s : Nat} {l : List Int} (hp : ∀ y ∈ l, 0 ≤ y) (hs : l.sum = (s : Int)) (x : List Int) (hd : x.Pairwise (· ≥ ·)) (i : Nat) (hi : i < (pl s l).length) (he : (pl s l)[i] = x) : ¬ i + 1 < (pl s l).length := by
  intro h
  have h1 := pairwise_get (pl_sorted s l) i (i + 1) hi h (by omega)
  rw [he] at h1
  have hx : x ∈ pl s l := by rw [← he]; exact List.getElem_mem hi
  exact desc_max x _ hd (pl_perm hp hs hx (List.getElem_mem _)) h1
theorem pl_inj {s : Nat} {l : List Int} (i j : Nat) (hi : i < (pl s l).length) (hj : j < (pl s l).length) (h : (pl s l)[i] = (pl s l)[j]) : i = j := by
  rcases Nat.lt_trichotomy i j with h' | h' | h'
  · have := pairwise_get (pl_sorted s l) i j hi hj h'
    rw [h] at this
    exact absurd this (lt_irrefl _)
  · exact h'
  · have := pairwise_get (pl_sorted s l) j i hj hi h'
    rw [h] at this
    exact absurd this (lt_irrefl _)
end Go.Proofs.Ytejcniaepjahbaa.Pure
