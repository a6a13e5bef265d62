/- Package nat's Text: the canonical text of a number; canonical texts of the same number are the same. -/
import Derived.Test.YtolikobhjmnedaaDoorNatSub
set_option linter.unusedSimpArgs false
set_option linter.unusedVariables false
namespace Go.Proofs.YtolikobhjmnedaaDoor.Pure
open Go.RowKit Go.Proofs.YtolikobhjmnedaaDoor.GN Go.Proofs.YtolikobhjmnedaaDoorW.PrintWords Go.Proofs.YtolikobhjmnedaaDoorW.PrintLast Go.Proofs.YtolikobhjmnedaaDoor.Aid Go.Proofs.YtolikobhjmnedaaDoor.NatVal

theorem digs_cons (c : Int) (l : List Int) : digs (c :: l) = digs l ++ [c - 48] := by simp [digs]
/-- a canonical text of the number v -/
def Canon (s : ByteArray) (v : Int) : Prop := asc (bytesOf s) ∧ val 10 (digs (bytesOf s)) = v ∧ 0 < s.size ∧ (1 < s.size → rd (bytesOf s) 0 ≠ 48)
theorem digs_noLead {l : List Int} (h : rd l 0 ≠ 48) : noLead (digs l) := by
  cases l with
  | nil => exact noLead_nil
  | cons c r =>
    intro hne
    have : (digs (c :: r)).getLast hne = c - 48 := by simp [digs_cons]
    rw [this]
    simp [rd] at h
    omega
theorem bytes_inj {s t : ByteArray} (h : bytesOf s = bytesOf t) : s.toList = t.toList := by
  rw [ByteArray.toList_eq, ByteArray.toList_eq]
  unfold bytesOf at h
  exact (List.map_inj_right (fun a b e => by
    have : a.toNat = b.toNat := by omega
    exact UInt8.toNat_inj.1 this)).1 h
theorem digs_inj {l r : List Int} (h : digs l = digs r) : l = r := by
  unfold digs at h
  have h1 := List.reverse_inj.1 h
  exact (List.map_inj_right (fun a b e => by omega)).1 h1
theorem canon_big {s : ByteArray} {v : Int} (h : Canon s v) (h1 : 1 < s.size) : 10 ≤ v := by
  obtain ⟨ha, hv, h0, hl⟩ := h
  have hne : digs (bytesOf s) ≠ [] := fun z => by
    have := congrArg List.length z
    rw [digs_length, bytesOf_length, List.length_nil] at this
    omega
  have := val_ge (b := 10) (by decide) (digs_ok ha) (digs_noLead (hl h1)) hne
  rw [digs_length, bytesOf_length, hv] at this
  have h2 : (10 : Int) ^ 1 ≤ 10 ^ (s.size - 1) := pow_mono (by decide) (by omega)
  rw [Int.pow_one] at h2
  omega
theorem canon_small {s : ByteArray} {v : Int} (h : Canon s v) (h1 : ¬ 1 < s.size) : v < 10 := by
  obtain ⟨ha, hv, h0, hl⟩ := h
  have := val_lt (b := 10) (by decide) (digs_ok ha)
  rw [digs_length, bytesOf_length, hv, show s.size = 1 by omega, Int.pow_one] at this
  exact this
theorem canon_inj {s t : ByteArray} {v : Int} (h : Canon s v) (h' : Canon t v) : s.toList = t.toList := by
  refine bytes_inj (digs_inj ?_)
  by_cases h1 : 1 < s.size
  · have h2 : 1 < t.size := by
      by_cases h2 : 1 < t.size
      · exact h2
      · have := canon_big h h1; have := canon_small h' h2; omega
    exact val_inj (b := 10) (by decide) (digs_ok h.1) (digs_noLead (h.2.2.2 h1)) (digs_ok h'.1) (digs_noLead (h'.2.2.2 h2)) (by rw [h.2.1, h'.2.1])
  · have h2 : ¬ 1 < t.size := fun h2 => by
      have := canon_big h' h2; have := canon_small h h1; omega
    have a1 := h.2.2.1
    have a2 := h'.2.2.1
    exact val_inj_len (b := 10) (by decide) (digs_ok h.1) (digs_ok h'.1) (by rw [digs_length, digs_length, bytesOf_length, bytesOf_length]; omega) (by rw [h.2.1, h'.2.1])
theorem bytesOf_strOfNums {l : List Int} (h : asc l) : bytesOf (strOfNums l) = l := by
  unfold bytesOf
  rw [Go.strOfNums_data, List.map_map]
  conv => rhs; rw [← List.map_id l]
  refine List.map_congr_left (fun c hc => ?_)
  have := h c hc
  show ((UInt8.ofNat c.toNat).toNat : Int) = c
  rw [UInt8.toNat_ofNat']
  omega
theorem trimb_ev (n : Nat) : ∀ s : ByteArray, s.size = n → n ≤ 1000000000 → asc (bytesOf s) → 0 < val 10 (digs (bytesOf s)) →
    ∃ t, Ev (fun k => strings_trimLeftByte.l0 k s 48) t ∧ Canon t (val 10 (digs (bytesOf s))) ∧ t.size ≤ s.size := by
  induction n with
  | zero =>
    intro s hs _ ha hv
    have : bytesOf s = [] := List.eq_nil_of_length_eq_zero (by rw [bytesOf_length, hs])
    rw [this] at hv
    simp [digs, val] at hv
  | succ n ih =>
    intro s hs hn ha hv
    have hl := bytesOf_length s
    have hd := drop_rd (bytesOf s) 0 (by omega)
    rw [List.drop_zero] at hd
    have hb : bt s 0 = rd (bytesOf s) 0 := (rd_bytesOf s 0).symm
    by_cases h48 : rd (bytesOf s) 0 = 48
    · have he : bytesOf (s.extract 1 s.size) = (bytesOf s).drop 1 := by
        rw [bytesOf_extract, List.take_of_length_le (by rw [List.length_drop, hl]; exact Nat.le_refl _)]
      have hsz : (s.extract 1 s.size).size = n := by
        have := bytesOf_length (s.extract 1 s.size)
        rw [he, List.length_drop, hl] at this
        omega
      have hval : val 10 (digs (bytesOf s)) = val 10 (digs (bytesOf (s.extract 1 s.size))) := by
        conv => lhs; rw [hd]
        rw [he, show ((0 : Nat) : Int) = 0 from rfl, h48, digs_cons, val_snoc]
        simp
      obtain ⟨t, q1, q2, q3⟩ := ih (s.extract 1 s.size) hsz (by omega) (by rw [he]; exact fun c hc => ha c (List.mem_of_mem_drop hc)) (by rw [← hval]; exact hv)
      refine ⟨t, ?_, by rw [hval]; exact q2, by omega⟩
      refine Ev.step (fun k => strings_trimLeftByte.l0.eq_2 _ _ k) ?_
      exact Ev.yes (by omega) (Ev.yes (by omega) (Ev.yes (by rw [hb]; exact h48) (Ev.yes (by omega) q1)))
    · refine ⟨s, ?_, ⟨ha, rfl, by omega, fun _ => h48⟩, Nat.le_refl _⟩
      refine Ev.step (fun k => strings_trimLeftByte.l0.eq_2 _ _ k) ?_
      exact Ev.yes (by omega) (Ev.yes (by omega) (Ev.no (by rw [hb]; exact h48) (Ev.now _)))
theorem trimleft_ev (s : ByteArray) (hn : s.size ≤ 1000000000) (ha : asc (bytesOf s)) (hv : 0 < val 10 (digs (bytesOf s))) :
    ∃ t, Ev (fun k => strings_TrimLeft.f k s (⟨#[48]⟩ : ByteArray)) t ∧ Canon t (val 10 (digs (bytesOf s))) ∧ t.size ≤ s.size := by
  obtain ⟨t, q1, q2, q3⟩ := trimb_ev s.size s rfl hn ha hv
  refine ⟨t, ?_, q2, q3⟩
  have hne : ¬ s.toList = ([] : List UInt8) := fun z => by
    have h0 := (list_nil s).1 z
    have : bytesOf s = [] := List.eq_nil_of_length_eq_zero (by rw [bytesOf_length, h0])
    rw [this] at hv
    simp [digs, val] at hv
  unfold strings_TrimLeft.f
  refine Ev.no hne ?_
  rw [show ((⟨#[48]⟩ : ByteArray).toList == ([] : List UInt8)) = false by decide +kernel]
  refine Ev.step (fun k => strings_TrimLeft.j0.eq_2 _ _ _ k) ?_
  refine Ev.no (by simp) (Ev.yes (by decide +kernel) (Ev.yes (by decide +kernel) ?_))
  rw [show decide (bt (⟨#[48]⟩ : ByteArray) 0 < 128) = true by decide +kernel]
  refine Ev.step (fun k => strings_TrimLeft.j1.eq_2 _ _ _ k) ?_
  refine Ev.yes rfl (Ev.yes (by decide +kernel) ?_)
  rw [show bt (⟨#[48]⟩ : ByteArray) 0 = 48 by decide +kernel]
  exact Ev.bind1 q1 (Ev.now _)

/-! ### Text -/
theorem set_drop (l : List Int) (j : Nat) (v : Int) (h : j < l.length) : (l.set j v).drop j = v :: l.drop (j + 1) := by
  rw [drop_rd _ j (by simpa using h), rd_eq _ j (by simpa using h), List.getElem_set_self, List.drop_set_of_lt (by omega)]
theorem asc_cons {c : Int} {l : List Int} (h : 48 ≤ c ∧ c ≤ 57) (h' : asc l) : asc (c :: l) := by
  intro x hx
  rcases List.mem_cons.1 hx with rfl | hx
  · exact h
  · exact h' x hx
theorem asc_append {l r : List Int} (h : asc l) (h' : asc r) : asc (l ++ r) := by
  intro x hx
  rcases List.mem_append.1 hx with hx | hx
  · exact h x hx
  · exact h' x hx
theorem text_l1 (x0 x3 : List Int) (x4 : Int) (h3 : x3.length ≤ 10000000) (w : Int) (hw1 : w < 1000000000) {r : ByteArray}
    (next : ∀ p : List Int, p.length = 9 → asc p → val 10 (digs p) = w → Ev (fun k => nat_N_Text.l0 k x0 (x3 ++ p) (wrap64 (x4 - 1))) r) (j : Nat) :
    ∀ (p : List Int) (x : Int), j ≤ 9 → p.length = 9 → 0 ≤ x → x < 1000000000 → asc (p.drop j) → val 10 (digs (p.drop j)) + 10 ^ (9 - j) * x = w →
      Ev (fun k => nat_N_Text.l1 k x0 x3 x4 x p ((j : Int) - 1)) r := by
  induction j with
  | zero =>
    intro p x hj hp hx0 hx1 ha hv
    rw [List.drop_zero] at ha hv
    have h0 := val_nonneg (b := 10) (by decide) (digs_ok ha)
    have hp9 : (10 : Int) ^ (9 - 0) = 1000000000 := by decide
    rw [hp9] at hv
    refine Ev.step (fun k => nat_N_Text.l1.eq_2 _ _ _ _ _ _ k) ?_
    exact Ev.no (by omega) (Ev.yes (by omega) (next p hp ha (by omega)))
  | succ j ih =>
    intro p x hj hp hx0 hx1 ha hv
    rw [show ((j + 1 : Nat) : Int) - 1 = (j : Int) by omega]
    refine Ev.step (fun k => nat_N_Text.l1.eq_2 _ _ _ _ _ _ k) ?_
    refine Ev.yes (by omega) (Ev.yes (by omega) (Ev.yes (by omega) ?_))
    have e1 : Int.tdiv x 10 % 4294967296 = x / 10 := by rw [Int.tdiv_eq_ediv_of_nonneg hx0]; omega
    have e2 : (48 + Int.tmod x 10) % 256 = 48 + x % 10 := by rw [Int.tmod_eq_emod_of_nonneg hx0]; omega
    rw [e1, e2, Int.toNat_natCast, w64 (by omega) (by omega)]
    refine ih _ _ (by omega) (by simpa using hp) (by omega) (by omega) ?_ ?_
    · rw [set_drop _ _ _ (by omega)]
      exact asc_cons (by omega) ha
    · rw [set_drop _ _ _ (by omega), digs_cons, val_snoc, digs_length, List.length_drop, hp, ← hv, Int.add_assoc, show 9 - (j + 1) = 8 - j by omega, show 9 - j = (8 - j) + 1 by omega, Int.pow_succ, Int.mul_assoc, ← Int.mul_add]
      congr 2
      omega
theorem text_l0 (l : List Int) (hl : l.length ≤ 100000) (ho : ok BB l) (hv : 0 < val BB l) (n : Nat) :
    ∀ x3 : List Int, n ≤ l.length → asc x3 → x3.length = 9 * (l.length - n) → val 10 (digs x3) = val BB (l.drop n) →
      ∃ t, Ev (fun k => nat_N_Text.l0 k l x3 ((n : Int) - 1)) t ∧ Canon t (val BB l) ∧ t.size ≤ 9 * l.length := by
  induction n with
  | zero =>
    intro x3 hn ha hx hv3
    rw [List.drop_zero] at hv3
    have hb := bytesOf_strOfNums ha
    have hsz : (strOfNums x3).size = x3.length := by rw [← bytesOf_length, hb]
    obtain ⟨t, q1, q2, q3⟩ := trimleft_ev (strOfNums x3) (by omega) (by rw [hb]; exact ha) (by rw [hb, hv3]; exact hv)
    rw [hb, hv3] at q2
    refine ⟨t, ?_, q2, by omega⟩
    refine Ev.step (fun k => nat_N_Text.l0.eq_2 _ _ _ k) ?_
    exact Ev.no (by omega) (Ev.bind1 q1 (Ev.now _))
  | succ n ih =>
    intro x3 hn ha hx hv3
    have hr := ok_rd ho n (by omega)
    have hr1 : rd l (n : Int) < 1000000000 := hr.2
    -- the part of this limb: first its digits exist (the loop tells them), so the rest is stated for every part
    have hpart : ∃ p : List Int, p.length = 9 ∧ asc p ∧ val 10 (digs p) = rd l (n : Int) := by
      have go : ∀ (m : Nat) (v : Int), 0 ≤ v → v < 10 ^ m → ∃ p : List Int, p.length = m ∧ asc p ∧ val 10 (digs p) = v := by
        intro m
        induction m with
        | zero => intro v h0 h1; exact ⟨[], rfl, fun c hc => by simp at hc, by simp [digs, val]; simp at h1; omega⟩
        | succ m im =>
          intro v h0 h1
          rw [Int.pow_succ] at h1
          obtain ⟨p, p1, p2, p3⟩ := im (v / 10) (by omega) (by omega)
          refine ⟨p ++ [48 + v % 10], by simp; omega, asc_append p2 (asc_cons (by omega) (fun c hc => by simp at hc)), ?_⟩
          rw [digs_snoc]
          simp only [val]
          omega
      exact go 9 _ hr.1 (by rw [show (10 : Int) ^ 9 = 1000000000 by decide]; exact hr1)
    obtain ⟨p, p1, p2, p3⟩ := hpart
    obtain ⟨t, q1, q2, q3⟩ := ih (x3 ++ p) (by omega) (asc_append ha p2) (by simp; omega) (by
      rw [digs_append, val_append, digs_length, p1, p3, hv3, drop_rd l n (by omega), show (10 : Int) ^ 9 = BB by decide]
      rfl)
    refine ⟨t, ?_, q2, q3⟩
    rw [show ((n + 1 : Nat) : Int) - 1 = (n : Int) by omega]
    refine Ev.step (fun k => nat_N_Text.l0.eq_2 _ _ _ k) ?_
    refine Ev.yes (by omega) (Ev.yes (by omega) (Ev.yes (by omega) (Ev.yes (by omega) ?_)))
    refine text_l1 l x3 (n : Int) (by omega) (rd l (n : Int)) hr1 ?_ 9 (List.replicate 9 0) (rd l (n : Int)) (by omega) (by simp) hr.1 hr1 ?_ ?_
    · intro p' p1' p2' p3'
      have : p' = p := digs_inj (val_inj_len (b := 10) (by decide) (digs_ok p2') (digs_ok p2) (by rw [digs_length, digs_length]; omega) (by rw [p3, p3']))
      rw [this, w64 (by omega) (by omega)]
      exact q1
    · intro c hc
      simp at hc
    · simp [digs, val]
theorem make61 (m : Int) (h0 : 0 ≤ m) (h1 : m ≤ 1000000000) : gp_make0_61.f m = some [] := by
  unfold gp_make0_61.f
  rw [if_pos ⟨h0, by omega⟩]
theorem text_ev {l : List Int} {v : Int} (h : Limbs l v) (hl : l.length ≤ 100000) : ∃ t, Ev (fun k => nat_N_Text.f k l) t ∧ Canon t v ∧ t.size ≤ 9 * l.length + 1 := by
  obtain ⟨hv, ho, ht⟩ := h
  unfold nat_N_Text.f
  by_cases h0 : (l.length : Int) = 0
  · have hnil : l = [] := List.eq_nil_of_length_eq_zero (by omega)
    refine ⟨⟨#[48]⟩, Ev.yes h0 (Ev.now _), ?_, by show 1 ≤ _; omega⟩
    subst hnil
    rw [← hv]
    exact ⟨fun c hc => by
      have : bytesOf (⟨#[48]⟩ : ByteArray) = [48] := by decide +kernel
      rw [this] at hc; simp at hc; omega, by decide +kernel, by decide +kernel, fun h => absurd h (by decide +kernel)⟩
  · have hne : l ≠ [] := fun z => h0 (by rw [z]; rfl)
    have hge := val_ge (b := BB) (by decide) ho ht hne
    have hp : 0 < BB ^ (l.length - 1) := Int.pow_pos (by decide)
    obtain ⟨t, q1, q2, q3⟩ := text_l0 l hl ho (by omega) l.length [] (Nat.le_refl _) (fun c hc => by simp at hc) (by simp) (by rw [List.drop_length]; simp [digs, val])
    rw [hv] at q2
    refine ⟨t, Ev.no h0 ?_, q2, by omega⟩
    rw [w64 (by omega) (by omega), w64 (by omega) (by omega)]
    exact Ev.opt_bind (make61 _ (by omega) (by omega)) q1
end Go.Proofs.YtolikobhjmnedaaDoor.Pure
