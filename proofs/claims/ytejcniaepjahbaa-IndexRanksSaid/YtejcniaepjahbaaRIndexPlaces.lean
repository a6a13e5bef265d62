/- The reference's list of all placements: what it is, and how many there are. -/
import Derived.Test.YtejcniaepjahbaaRIndexBase
set_option linter.unusedSimpArgs false
namespace Go.Proofs.Ytejcniaepjahbaa.Pure
open Go.RowKit Go.Proofs.Ytejcniaepjahbaa.GR Go.Proofs.YtejcniaepjahbaaW.PrintWords Go.Proofs.YtejcniaepjahbaaW.PrintLast Go.Proofs.Ytejcniaepjahbaa.Aid

def frm {α : Type} (F : Nat → List α) : Nat → Nat → List α
  | _, 0 => []
  | c, d + 1 => F c ++ frm F (c + 1) d
/-- The placements of s squares in lexicographic order: l says how often each kind occurs. -/
def pl : Nat → List Int → List (List Int)
  | 0, _ => [[]]
  | s + 1, l => frm (fun c => if rd l (c : Int) = 0 then [] else (pl s (l.set c (rd l (c : Int) - 1))).map (fun p => (c : Int) :: p)) 0 l.length

theorem sum_drop (l : List Int) (j : Nat) (h : j < l.length) : (l.drop j).sum = rd l (j : Int) + (l.drop (j + 1)).sum := by
  rw [drop_rd l j h, List.sum_cons]
theorem sum_nonneg (l : List Int) (h : ∀ x ∈ l, 0 ≤ x) : 0 ≤ l.sum := by
  induction l with
  | nil => simp
  | cons x r ih =>
    have := h x (by simp)
    have := ih (fun y hy => h y (by simp [hy]))
    simp only [List.sum_cons]; omega
theorem le_sum (l : List Int) (h : ∀ x ∈ l, 0 ≤ x) : ∀ x ∈ l, x ≤ l.sum := by
  induction l with
  | nil => simp
  | cons x r ih =>
    have hx := h x (by simp)
    have hr := sum_nonneg r (fun y hy => h y (by simp [hy]))
    intro y hy
    simp only [List.sum_cons]
    rcases List.mem_cons.1 hy with rfl | hy
    · omega
    · have := ih (fun y hy => h y (by simp [hy])) y hy
      omega
theorem mem_drop_nonneg {l : List Int} (h : ∀ x ∈ l, 0 ≤ x) (j : Nat) : ∀ x ∈ l.drop j, 0 ≤ x := fun x hx => h x (List.mem_of_mem_drop hx)
theorem dec_sum (l : List Int) : ∀ (c : Nat), c < l.length → (l.set c (rd l (c : Int) - 1)).sum = l.sum - 1 := by
  induction l with
  | nil => intro c hc; simp at hc
  | cons x r ih =>
    intro c hc
    cases c with
    | zero => simp [rd]; omega
    | succ c =>
      have h := ih c (by simpa using hc)
      have e : rd (x :: r) ((c + 1 : Nat) : Int) = rd r (c : Int) := by rw [rd_nat, rd_nat]; simp
      rw [e, List.set_cons_succ, List.sum_cons, List.sum_cons, h]; omega
theorem dec_nonneg (l : List Int) (h : ∀ x ∈ l, 0 ≤ x) (c : Nat) (hc : c < l.length) (h0 : ¬ rd l (c : Int) = 0) : ∀ x ∈ l.set c (rd l (c : Int) - 1), 0 ≤ x := by
  intro x hx
  rcases List.mem_or_eq_of_mem_set hx with hx | rfl
  · exact h x hx
  · have := h _ (mem_rd l c hc); omega
theorem frm_le {α : Type} (F : Nat → List α) (B : Nat) (h : ∀ c, (F c).length ≤ B) (d : Nat) : ∀ c, (frm F c d).length ≤ d * B := by
  induction d with
  | zero => intro c; simp [frm]
  | succ d ih =>
    intro c
    have := h c
    have := ih (c + 1)
    simp only [frm, List.length_append, Nat.succ_mul]; omega
theorem pl_len (s : Nat) : ∀ l, l.length ≤ 7 → (pl s l).length ≤ 7 ^ s := by
  induction s with
  | zero => intro l _; simp [pl]
  | succ s ih =>
    intro l hl
    have h := frm_le (fun c => if rd l (c : Int) = 0 then [] else (pl s (l.set c (rd l (c : Int) - 1))).map (fun p => (c : Int) :: p)) (7 ^ s) (by
      intro c
      split
      · simp
      · simpa using ih _ (by simpa using hl)) l.length 0
    simp only [pl]
    refine Nat.le_trans h ?_
    rw [Nat.pow_succ, Nat.mul_comm]
    exact Nat.mul_le_mul_left _ hl
theorem mem_frm {α : Type} (F : Nat → List α) (x : α) (d : Nat) : ∀ c, x ∈ frm F c d → ∃ i, c ≤ i ∧ i < c + d ∧ x ∈ F i := by
  induction d with
  | zero => intro c h; simp [frm] at h
  | succ d ih =>
    intro c h
    simp only [frm, List.mem_append] at h
    rcases h with h | h
    · exact ⟨c, by omega, by omega, h⟩
    · obtain ⟨i, h1, h2, h3⟩ := ih _ h
      exact ⟨i, by omega, by omega, h3⟩
theorem pl_size (s : Nat) : ∀ l, ∀ p ∈ pl s l, p.length = s := by
  induction s with
  | zero => intro l p hp; simp [pl] at hp; simp [hp]
  | succ s ih =>
    intro l p hp
    simp only [pl] at hp
    obtain ⟨i, _, _, h⟩ := mem_frm _ _ _ _ hp
    split at h
    · simp at h
    · obtain ⟨q, hq, rfl⟩ := List.mem_map.1 h
      simp [ih _ q hq]
theorem pow7 {s : Nat} (h : s ≤ 7) : 7 ^ s ≤ 823543 := Nat.le_trans (Nat.pow_le_pow_right (by omega) h) (by decide)

theorem places_l2 (x0 : List Int) (cn : Nat) (T : List (List Int)) (s : Nat) (hs : s ≤ 7) (hT : ∀ p ∈ T, p.length ≤ s) (hTl : T.length ≤ 823543) (d : Nat) : ∀ (j : Nat) (out : List (List Int)) (r : List (List Int)), j + d = T.length → out.length + d ≤ 5764801 →
    Ev (fun k => gamehallref2_Placements.l1 k x0 (out ++ (T.drop j).map (fun p => (cn : Int) :: p)) x0 (x0.length : Int) (wrap64 ((cn : Int) + 1))) r →
    Ev (fun k => gamehallref2_Placements.l2 k x0 out (cn : Int) x0 (x0.length : Int) (cn : Int) T (T.length : Int) (j : Int)) r := by
  induction d with
  | zero =>
    intro j out r hj hb h
    refine Ev.step (fun k => gamehallref2_Placements.l2.eq_2 _ _ _ _ _ _ _ _ _ k) ?_
    refine Ev.no (by omega) ?_
    rwa [show j = T.length by omega, List.drop_length, List.map_nil, List.append_nil] at h
  | succ d ih =>
    intro j out r hj hb h
    have hlt : j < T.length := by omega
    have hrd : rd_L1 T (j : Int) = T[j] := by simp [rd_L1, hlt]
    have hp := hT _ (List.getElem_mem hlt)
    have hbig : 5764801 < 5864062014805 := by decide
    refine Ev.step (fun k => gamehallref2_Placements.l2.eq_2 _ _ _ _ _ _ _ _ _ k) ?_
    refine Ev.yes (by omega) (Ev.yes (by omega) (Ev.yes (by omega) (Ev.some_bind ?_)))
    rw [hrd]
    refine Ev.yes (by simp; omega) (Ev.yes (by omega) ?_)
    rw [w64s (by omega)]
    refine ih (j + 1) _ r (by omega) (by simp; omega) ?_
    rw [List.drop_eq_getElem_cons hlt, List.map_cons] at h
    rw [List.append_assoc]
    exact h
/-- The loop over the kinds, from kind c on. -/
theorem places_l1 (s B : Nat) (hs : s + 1 ≤ 7) (hp7 : B ≤ 823543) (hpl : ∀ l : List Int, l.length ≤ 7 → (pl s l).length ≤ B) (l : List Int) (hl : l.length ≤ 7)
    (ih : ∀ l', l'.length = l.length → (∀ x ∈ l', 0 ≤ x) → l'.sum = (s : Int) → Ev (fun k => gamehallref2_Placements.f k l') (pl s l'))
    (hpos : ∀ x ∈ l, 0 ≤ x) (hsum : l.sum = s + 1) (d : Nat) : ∀ (c : Nat) (out : List (List Int)), c + d = l.length → out.length + d * B ≤ 5764801 →
    Ev (fun k => gamehallref2_Placements.l1 k l out l (l.length : Int) (c : Int)) (out ++ frm (fun c => if rd l (c : Int) = 0 then [] else (pl s (l.set c (rd l (c : Int) - 1))).map (fun p => (c : Int) :: p)) c d) := by
  induction d with
  | zero =>
    intro c out hc hb
    refine Ev.step (fun k => gamehallref2_Placements.l1.eq_2 _ _ _ _ _ k) ?_
    refine Ev.no (by omega) (Ev.now' (by simp [frm]))
  | succ d ihd =>
    intro c out hc hb
    have hlt : c < l.length := by omega
    have hb2 : out.length + d * B + B ≤ 5764801 := by rw [Nat.add_one_mul] at hb; omega
    have hx := hpos _ (mem_rd l c hlt)
    have hx2 := le_sum l hpos _ (mem_rd l c hlt)
    refine Ev.step (fun k => gamehallref2_Placements.l1.eq_2 _ _ _ _ _ k) ?_
    refine Ev.yes (by omega) (Ev.yes (by omega) (Ev.yes (by omega) ?_))
    simp only [frm]
    by_cases h0 : rd l (c : Int) = 0
    · refine Ev.yes h0 ?_
      rw [if_pos h0, w64s (by omega), List.nil_append]
      exact ihd (c + 1) out (by omega) (by omega)
    · refine Ev.no h0 (Ev.some_bind ?_)
      rw [if_neg h0]
      refine Ev.yes (by simp; omega) (Ev.some_bind ?_)
      rw [List.nil_append]
      refine Ev.yes (by omega) ?_
      have hd := dec_sum l c hlt
      have he := dec_nonneg l hpos c hlt h0
      rw [w64 (i := rd l (c : Int) - 1) (by omega) (by omega), Int.toNat_natCast]
      refine Ev.bind1 (ih (l.set c (rd l (c : Int) - 1)) (by simp) he (by omega)) ?_
      have hlen := hpl (l.set c (rd l (c : Int) - 1)) (by simpa using hl)
      refine places_l2 l c _ s (by omega) (fun p hp => Nat.le_of_eq (pl_size s _ p hp)) (by omega) _ 0 out _ (Nat.zero_add _) (by omega) ?_
      rw [w64s (by omega), List.drop_zero, ← List.append_assoc]
      refine ihd (c + 1) _ (by omega) ?_
      rw [List.length_append, List.length_map]; omega
theorem places_l0 (l : List Int) (hl : l.length ≤ 7) (hpos : ∀ x ∈ l, 0 ≤ x) (hs : l.sum ≤ 7) (r : List (List Int))
    (h : Ev (fun k => if l.sum = 0 then some [[]] else gamehallref2_Placements.l1 k l [] l (l.length : Int) 0) r) (d : Nat) : ∀ (j : Nat) (a : Int), j + d = l.length → 0 ≤ a → a + (l.drop j).sum = l.sum →
    Ev (fun k => gamehallref2_Placements.l0 k l a l (l.length : Int) (j : Int)) r := by
  induction d with
  | zero =>
    intro j a hj h0 ha
    refine Ev.step (fun k => gamehallref2_Placements.l0.eq_2 _ _ _ _ _ k) ?_
    refine Ev.no (by omega) ?_
    rw [show j = l.length by omega, List.drop_length, List.sum_nil, Int.add_zero] at ha
    rw [ha]
    exact h
  | succ d ih =>
    intro j a hj h0 ha
    have hlt : j < l.length := by omega
    rw [sum_drop l j hlt] at ha
    have hx := hpos _ (mem_rd l j hlt)
    have hd := sum_nonneg _ (mem_drop_nonneg hpos (j + 1))
    refine Ev.step (fun k => gamehallref2_Placements.l0.eq_2 _ _ _ _ _ k) ?_
    refine Ev.yes (by omega) (Ev.yes (by omega) (Ev.yes (by omega) ?_))
    rw [w64s (by omega), w64 (by omega) (by omega)]
    exact ih (j + 1) _ (by omega) (by omega) (by omega)
theorem places_ev (s : Nat) : s ≤ 7 → ∀ (l : List Int), l.length ≤ 7 → (∀ x ∈ l, 0 ≤ x) → l.sum = s → Ev (fun k => gamehallref2_Placements.f k l) (pl s l) := by
  induction s with
  | zero =>
    intro _ l hl hpos hs
    refine Ev.step (fun k => gamehallref2_Placements.f.eq_2 _ k) ?_
    exact places_l0 l hl hpos (by omega) _ (Ev.yes (by omega) (Ev.now _)) l.length 0 0 (by omega) (by omega) (by simp)
  | succ s ih =>
    intro hs7 l hl hpos hs
    refine Ev.step (fun k => gamehallref2_Placements.f.eq_2 _ k) ?_
    have hp7 := pow7 (s := s) (by omega)
    have hbound : l.length * 7 ^ s ≤ 7 * 823543 := Nat.mul_le_mul hl hp7
    refine places_l0 l hl hpos (by omega) _ (Ev.no (by omega) ?_) l.length 0 0 (by omega) (by omega) (by simp)
    have h := places_l1 s (7 ^ s) hs7 hp7 (pl_len s) l hl (fun l' h1 h2 h3 => ih (by omega) l' (by omega) h2 h3) hpos (by omega) l.length 0 [] (by omega) (by simp only [List.length_nil]; omega)
    simpa [pl] using h

/-! ### how many -/
theorem frm_len {α : Type} (F : Nat → List α) (d : Nat) : ∀ c, (frm F c d).length = ((List.range' c d).map fun i => (F i).length).sum := by
  induction d with
  | zero => intro c; simp [frm]
  | succ d ih => intro c; simp [frm, ih, List.range'_succ]
def dec : List Nat → Nat → List Nat
  | [], _ => []
  | x :: r, 0 => (x - 1) :: r
  | x :: r, c + 1 => x :: dec r c
def sel : List Nat → Nat → Nat
  | [], _ => 0
  | x :: _, 0 => x
  | _ :: r, c + 1 => sel r c
theorem facs_dec (L : List Nat) : ∀ c, 0 < sel L c → facs L = sel L c * facs (dec L c) ∧ (dec L c).sum + 1 = L.sum := by
  induction L with
  | nil => intro c h; simp [sel] at h
  | cons x r ih =>
    intro c h
    cases c with
    | zero =>
      simp only [sel] at h
      obtain ⟨y, rfl⟩ : ∃ y, x = y + 1 := ⟨x - 1, by omega⟩
      simp only [facs, sel, dec, fac, Nat.add_sub_cancel, List.sum_cons, Nat.mul_assoc]
      exact ⟨trivial, by omega⟩
    | succ c =>
      obtain ⟨h1, h2⟩ := ih c h
      simp only [facs, sel, dec, List.sum_cons]
      rw [h1]
      exact ⟨by simp only [Nat.mul_left_comm], by omega⟩
theorem shift_range {α : Type} (f : Nat → α) (n : Nat) : ∀ c, (List.range' (c + 1) n).map f = (List.range' c n).map (fun i => f (i + 1)) := by
  induction n with
  | zero => intro c; rfl
  | succ n ih => intro c; rw [List.range'_succ, List.range'_succ, List.map_cons, List.map_cons, ih]
theorem sum_sel (L : List Nat) : ((List.range' 0 L.length).map fun i => sel L i).sum = L.sum := by
  induction L with
  | nil => rfl
  | cons x r ih =>
    rw [List.length_cons, List.range'_succ, List.map_cons, List.sum_cons, List.sum_cons, shift_range, ← ih]
    rfl
theorem rd_map (L : List Nat) : ∀ c : Nat, rd (L.map fun (n : Nat) => (n : Int)) (c : Int) = ((sel L c : Nat) : Int) := by
  induction L with
  | nil => intro c; simp [rd, sel]
  | cons x r ih =>
    intro c
    cases c with
    | zero => simp [rd, sel]
    | succ c => have := ih c; rw [rd_nat] at this ⊢; simpa [sel] using this
theorem set_map (L : List Nat) : ∀ c : Nat, 0 < sel L c → (L.map fun (n : Nat) => (n : Int)).set c (((sel L c : Nat) : Int) - 1) = (dec L c).map fun (n : Nat) => (n : Int) := by
  induction L with
  | nil => intro c h; simp [sel] at h
  | cons x r ih =>
    intro c h
    cases c with
    | zero => simp only [sel] at h ⊢; simp [dec]; omega
    | succ c => have := ih c h; simp only [sel, dec, List.map_cons, List.set_cons_succ, this]
theorem dec_len (L : List Nat) : ∀ c, (dec L c).length = L.length := by
  induction L with
  | nil => intro c; rfl
  | cons x r ih => intro c; cases c <;> simp [dec, ih]
theorem mul_sum (x : Nat) (l : List Nat) : l.sum * x = (l.map fun y => y * x).sum := by
  induction l with
  | nil => simp
  | cons y r ih => simp [Nat.add_mul, ih]
theorem pl_count (s : Nat) : ∀ (L : List Nat), L.sum = s → (pl s (L.map fun (n : Nat) => (n : Int))).length * facs L = fac s := by
  induction s with
  | zero =>
    intro L h
    have : ∀ L : List Nat, L.sum = 0 → facs L = 1 := by
      intro L
      induction L with
      | nil => intro _; rfl
      | cons x r ih =>
        intro h
        simp only [List.sum_cons] at h
        obtain rfl : x = 0 := by omega
        simp [facs, fac, ih (by omega)]
    simp [pl, this L h, fac]
  | succ s ih =>
    intro L h
    simp only [pl, fac]
    rw [frm_len, List.length_map, mul_sum, List.map_map]
    have : ((List.range' 0 L.length).map ((fun y => y * facs L) ∘ fun (i : Nat) => ((if rd (L.map fun (n : Nat) => (n : Int)) (i : Int) = 0 then [] else (pl s ((L.map fun (n : Nat) => (n : Int)).set i (rd (L.map fun (n : Nat) => (n : Int)) (i : Int) - 1))).map (fun p => (i : Int) :: p)) : List (List Int)).length)) = (List.range' 0 L.length).map (fun i => sel L i * fac s) := by
      apply List.map_congr_left
      intro i _
      simp only [Function.comp]
      rw [rd_map]
      by_cases h0 : sel L i = 0
      · simp [h0]
      · rw [if_neg (by omega), set_map L i (by omega), List.length_map]
        obtain ⟨h1, h2⟩ := facs_dec L i (by omega)
        rw [h1, ← ih (dec L i) (by omega)]
        rw [← Nat.mul_assoc, Nat.mul_comm (List.length _) (sel L i), Nat.mul_assoc]
    rw [this, ← h]
    have e := mul_sum (fac s) ((List.range' 0 L.length).map fun i => sel L i)
    rw [sum_sel, List.map_map] at e
    exact e.symm
theorem pl_ways (L : List Nat) : (pl L.sum (L.map fun (n : Nat) => (n : Int))).length = ways 0 1 L := by
  have h1 := pl_count L.sum L rfl
  have h2 := ways_fac L 0 1
  simp only [fac, Nat.mul_one, Nat.one_mul, Nat.zero_add] at h2
  exact Nat.eq_of_mul_eq_mul_right (facs_pos L) (h1.trans h2.symm)
end Go.Proofs.Ytejcniaepjahbaa.Pure
