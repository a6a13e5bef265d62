/- Texts of this session, put together. -/
import Derived.Test.YtolikobhjmnedaaDoorRC5
section
/- The reference of package rat: RatInt, RatError, RatSub, RatCmp: the contracts hold. -/
set_option linter.unusedVariables false
set_option linter.unusedSimpArgs false
namespace Go.Proofs.YtolikobhjmnedaaDoor.Lib
open Go Go.Proofs.YtolikobhjmnedaaDoor.Mach Go.Proofs.YtolikobhjmnedaaDoorW.PrintWords Go.Proofs.YtolikobhjmnedaaDoor.Sem Go.Proofs.YtolikobhjmnedaaDoor.Pure Go.Proofs.YtolikobhjmnedaaDoor.NatVal
theorem intText_neg {n : Int} (h : n < 0) : ratText (n : Rat) = ⟨#[45]⟩ ++ natText n.natAbs := by
  unfold ratText rt
  rw [Rat.num_intCast, Rat.den_intCast, decide_eq_true h, if_pos rfl, app_empty]
  rfl
theorem intText_pos {n : Int} (h : 0 ≤ n) : ratText (n : Rat) = natText n.toNat := by
  rw [← ratText_nat]
  congr 1
  obtain ⟨m, rfl⟩ := Int.eq_ofNat_of_zero_le h
  rw [Int.toNat_natCast]; rfl
theorem minText : natText 9223372036854775808 = ⟨#[57, 50, 50, 51, 51, 55, 50, 48, 51, 54, 56, 53, 52, 55, 55, 53, 56, 48, 56]⟩ := by
  refine (text_eq ?_).symm
  refine ⟨?_, ?_, by decide, fun _ => by decide⟩
  · unfold asc; decide
  · decide
theorem xint_con {n : Int} {Q : Res} (h : xint n Q) : Con Tryd.prog 31 [.int .i64 n] Q := by
  obtain ⟨⟨h1, h2⟩, hq⟩ := h
  by_cases h0 : 0 ≤ n
  · rw [intText_pos h0] at hq
    exact rint_conS ⟨⟨h0, h2⟩, hq⟩
  · rw [intText_neg (by omega)] at hq
    refine conN (gn := fnT Tryd.f31) (by kernel_rfl) conR5_ok (inl := []) (LT := rintn_live) (NT := rintn_nils) rfl fun n0 => ?_
    rw [rintn_E]
    refine bif_neg h0 ?_
    by_cases hm : n = -9223372036854775808
    · refine bif_pos hm (res_str ?_)
      rw [hm, show (-9223372036854775808 : Int).natAbs = 9223372036854775808 from rfl, minText] at hq
      exact hq
    · refine bif_neg hm ?_
      rw [wr (by omega) (by omega)]
      obtain ⟨r, g1, g2, _⟩ := ratint_ev (0 - n).toNat (by omega)
      rw [text_eq g2, Int.toNat_of_nonneg (by omega)] at g1
      obtain ⟨k, hk⟩ := g1.rounds
      refine ⟨by omega, k, _, hk, bif_pos ?_ (res_str ?_)⟩
      · have : (natText (0 - n).toNat).size = dg (0 - n).toNat := rfl
        have := dg_word (n := (0 - n).toNat) (by omega)
        omega
      · rw [show (0 - n).toNat = n.natAbs by omega]
        exact hq
/-! ### RatError -/
theorem natText_two' : natErr (⟨#[50]⟩ : ByteArray) = 0 := by
  rw [← natText_two]
  exact err_text (Nat.le_trans (dg_le (k := 1) (by decide) (by decide)) (by decide))
/-- the error, out of what stands before and behind the stroke and how many there are -/
noncomputable def errOf (neg : Bool) (a b : ByteArray) (m : Int) : Int :=
  if natErr a = 5 ∨ natErr b = 5 ∨ (neg = true ∧ a = zeroS) then 5 else if natErr a ≠ 0 ∨ natErr b ≠ 0 then 2
  else if m = 2 ∧ (b = zeroS ∨ b = ⟨#[49]⟩ ∨ Nat.gcd (numOf a) (numOf b) ≠ 1) then 3 else 0
theorem errOf_eq (s : ByteArray) : ratErr s = errOf (preB s) (cutA (preR s)) (bif cutI (preR s) then cutB (preR s) else ⟨#[50]⟩) (bif cutI (preR s) then 2 else 1) := by
  unfold ratErr errOf
  cases hI : cutI (preR s) with
  | true => simp only [true_and, cond_true]
  | false =>
    have := natText_two'
    simp only [Bool.false_eq_true, false_and, or_false, false_or, cond_false, this]
    simp
section
variable {a b : ByteArray} {m : Int} {neg : Bool} {K : Res}
/-- the tests behind the loop -/
theorem err_tail (hk : ∀ v, errOf neg a b m = v → K (.int .i64 v) []) (hm : m = 1 ∨ m = 2) (h5 : ¬ (natErr a = 5 ∨ natErr b = 5 ∨ (neg = true ∧ a = zeroS))) :
    bif !decide (natErr a = 0) then K (AV.int IntKind.i64 2) [] else bif bif false then true else !decide (natErr b = 0) then K (AV.int IntKind.i64 2) [] else bif decide (m = 2) then bif b.toList == (ByteArray.mk #[48]).toList then K (AV.int IntKind.i64 3) [] else bif bif false then true else b.toList == (ByteArray.mk #[49]).toList then K (AV.int IntKind.i64 3) [] else ∃ u v, a = Sem.natText u ∧ b = Sem.natText v ∧ Sem.dg u ≤ 90000 ∧ Sem.dg v ≤ 90000 ∧ bif bif true then bif false then true else !(Sem.natText (u.gcd v)).toList == (ByteArray.mk #[49]).toList else false then K (AV.int IntKind.i64 3) [] else K (AV.int IntKind.i64 0) [] else K (AV.int IntKind.i64 0) [] := by
  unfold errOf at hk
  rw [if_neg h5] at hk
  by_cases e1 : natErr a = 0
  · refine bif_not (bif_pos e1 ?_)
    by_cases e2 : natErr b = 0
    · refine bif_f (by simp [e2]) ?_
      rw [if_neg (by rintro (h | h) <;> exact h (by assumption))] at hk
      rcases hm with hm | hm
      · exact bif_neg (by omega) (hk 0 (if_neg fun h => by omega))
      · refine bif_pos hm ?_
        by_cases f1 : b = zeroS
        · exact bif_t (bytes48.2 f1) (hk 3 (if_pos ⟨hm, .inl f1⟩))
        refine bif_f (fun h => f1 (bytes48.1 h)) ?_
        by_cases f2 : b = ⟨#[49]⟩
        · exact bif_t (bytes49.2 f2) (hk 3 (if_pos ⟨hm, .inr (.inl f2)⟩))
        refine bif_f (fun h => f2 (bytes49.1 h)) ?_
        obtain ⟨u, rfl, hu⟩ := err_zero e1
        obtain ⟨v, rfl, hv⟩ := err_zero e2
        rw [numOf_text, numOf_text] at hk
        refine ⟨u, v, rfl, rfl, by omega, by omega, ?_⟩
        by_cases f3 : Nat.gcd u v = 1
        · refine bif_f (by rw [cond_true, cond_false, Bool.not_eq_true', ← Bool.not_eq_true]; exact fun h => h (is1.2 f3)) (hk 0 (if_neg ?_))
          rintro ⟨_, h | h | h⟩
          · exact f1 h
          · exact f2 h
          · exact h f3
        · exact bif_t (by rw [cond_true, cond_false, Bool.not_eq_true', ← Bool.not_eq_true]; exact fun h => f3 (is1.1 h)) (hk 3 (if_pos ⟨hm, .inr (.inr f3)⟩))
    · exact bif_t (by simp [e2]) (hk 2 (if_pos (.inr e2)))
  · exact bif_not (bif_neg e1 (hk 2 (if_pos (.inl e1))))
end
/-- what the loop has found before place x -/
noncomputable def found (r : ByteArray) (x : Nat) : ByteArray × ByteArray × Int := if 0 ≤ firstIdx r 47 ∧ firstIdx r 47 < x then (cutA r, cutB r, 2) else (r, ⟨#[50]⟩, 1)
theorem found_zero (r : ByteArray) : found r 0 = (r, ⟨#[50]⟩, 1) := if_neg fun h => by omega
theorem found_all (r : ByteArray) : found r r.size = (cutA r, bif cutI r then cutB r else ⟨#[50]⟩, bif cutI r then 2 else 1) := by
  have := firstIdx_lt r 47
  unfold found
  cases hI : cutI r with
  | true =>
    rw [if_pos ⟨by unfold cutI at hI; exact of_decide_eq_true hI, this.2⟩]; rfl
  | false =>
    have ha : cutA r = r := by unfold cutA; rw [hI]; rfl
    rw [if_neg fun h => by unfold cutI at hI; exact of_decide_eq_false hI h.1, ha]; rfl
/-- a stroke, the first one -/
theorem found_hit {r : ByteArray} {x : Nat} (hx : x < r.size) (h : r.data.toList.getD x 0 = 47) (h1 : (found r x).2.2 = 1) : found r x = (r, ⟨#[50]⟩, 1) ∧ found r (x + 1) = (r.extract 0 x, r.extract (x + 1) r.size, 2) := by
  have hn : ¬ (0 ≤ firstIdx r 47 ∧ firstIdx r 47 < x) := fun hc => by
    unfold found at h1
    rw [if_pos hc] at h1
    simp at h1
  have := fi_at hx h
  refine ⟨if_neg hn, ?_⟩
  obtain ⟨c1, c2⟩ := cut_parts (r := r) (x := x) (by omega)
  unfold found
  rw [if_pos ⟨this.1, by omega⟩, c1, c2]
theorem found_skip {r : ByteArray} {x : Nat} (hx : x < r.size) (h : r.data.toList.getD x 0 ≠ 47 ∨ (found r x).2.2 ≠ 1) : found r (x + 1) = found r x := by
  unfold found at h ⊢
  by_cases hc : 0 ≤ firstIdx r 47 ∧ firstIdx r 47 < x
  · rw [if_pos hc, if_pos ⟨hc.1, by omega⟩]
  · rw [if_neg hc] at h ⊢
    rcases h with h | h
    · have := fi_ne hx h
      rw [if_neg (by omega)]
    · exact absurd rfl h
theorem found_m (r : ByteArray) (x : Nat) : (found r x).2.2 = 1 ∨ (found r x).2.2 = 2 := by
  unfold found
  split
  · exact .inr rfl
  · exact .inl rfl
theorem found_size (r : ByteArray) (x : Nat) : (found r x).1.size ≤ r.size ∧ (found r x).2.1.size ≤ r.size + 1 := by
  unfold found
  have h1 := cutA_le r
  have h2 := cutB_le r
  split
  · exact ⟨h1, Nat.le_succ_of_le h2⟩
  · exact ⟨Nat.le_refl _, by show (ByteArray.mk #[50]).size ≤ _; rw [show (ByteArray.mk #[50]).size = 1 from rfl]; omega⟩
theorem wrS {x n : Nat} (h : x < n) (hn : n ≤ 1000000000000000000) : IntKind.i64.wrap ((x : Int) + 1) = ((x + 1 : Nat) : Int) := by rw [wr (by omega) (by omega)]; omega
theorem xerr_con {s : ByteArray} {Q : Res} (h : rcheckS s Q) : Con Tryd.prog 34 [.str s] Q := by
  obtain ⟨hs, hq⟩ := h
  unfold Tx at hs
  refine conN (gn := fnT Tryd.f34) (by kernel_rfl) conX1_ok (inl := []) (LT := xerr_live) (NT := xerr_nils) rfl fun n0 => ?_
  rw [xerr_E]
  rw [errOf_eq] at hq
  have hk : ∀ v, errOf (preB s) (cutA (preR s)) (bif cutI (preR s) then cutB (preR s) else ⟨#[50]⟩) (bif cutI (preR s) then 2 else 1) = v → resK Q (.int .i64 v) [] := fun v h => by rw [h] at hq; exact res_int hq
  have hr := preR_le s
  have hsz : ∀ x, (found (preR s) x).1.size ≤ 1000000000000000 ∧ (found (preR s) x).2.1.size ≤ 1000000000000000 := fun x => by
    have := found_size (preR s) x
    have h2 : (found (preR s) x).2.1.size ≤ 1000000000000000 := by
      unfold found
      split
      · exact Nat.le_trans (cutB_le _) (by omega)
      · show (ByteArray.mk #[50]).size ≤ _; decide
    exact ⟨by omega, h2⟩
  have hm := found_m (preR s) (preR s).size
  have hall := found_all (preR s)
  by_cases hb : preB s = true
  · have hs0 : 0 < s.size := Nat.pos_of_ne_zero fun h => by
      unfold preB at hb
      rw [h] at hb
      simp at hb
    refine bif_pos (by omega) (bif_pos (by omega) (bif_t (by rw [cond_true]; exact decide_eq_true ((b45 hs0).2 hb)) (bif_and (bif_pos (by omega) (bif_pos (by omega) ?_)))))
    rw [Int.toNat_natCast, ← preR_neg hb]
    have go := loopN (f := 34) (gn := fnT Tryd.f34) (n0 := n0) (K := resK Q) (r := 6) (by kernel_rfl) conX1_ok (inl := []) (LT := xerr_live) (NT := xerr_nils) (fun x : Nat => xerr_s6_0 s (preR s) (found (preR s) x).2.2 (found (preR s) x).1 (found (preR s) x).2.1 ((preR s).size : Int) (x : Int)) (fun x => (preR s).size - x) (fun x => x ≤ (preR s).size) (fun x hp ih => by
      rw [xerr_s6_0_E]
      by_cases hx : x < (preR s).size
      · refine bif_pos (by omega) (bif_and (bif_pos (by omega) (bif_pos (by omega) ?_)))
        have ih' := ih (x + 1) (by omega) (by omega)
        rw [Int.toNat_natCast, wrS hx (by omega)]
        by_cases h47 : (preR s).data.toList.getD x 0 = 47
        · refine bif_pos (b47.2 h47) ?_
          by_cases h1 : (found (preR s) x).2.2 = 1
          · refine bif_t (by rw [cond_true]; exact decide_eq_true h1) (bif_and (bif_pos (by omega) (bif_pos (by omega) (bif_and (bif_and (bif_pos (by omega) (bif_pos (by omega) (bif_pos (by omega) ?_))))))))
            obtain ⟨f1, f2⟩ := found_hit hx h47 h1
            rw [f2] at ih'
            rw [Int.toNat_natCast, Int.toNat_natCast]
            exact ih'
          · refine bif_f (by rw [cond_true]; exact fun h => h1 (of_decide_eq_true h)) ?_
            rw [found_skip hx (.inr h1)] at ih'
            exact ih'
        · refine bif_neg (fun h => h47 (b47.1 h)) ?_
          rw [found_skip hx (.inl h47)] at ih'
          exact ih'
      · refine bif_neg (by omega) ?_
        have hxx : x = (preR s).size := by omega
        have hz := hsz x
        rw [hxx] at hz ⊢
        rw [hall] at hm hz ⊢
        refine ⟨hz.1, hz.2, ?_⟩
        rw [hb] at hk
        simp only at hm hz ⊢
        generalize cutA (preR s) = a at *
        generalize (bif cutI (preR s) then cutB (preR s) else ⟨#[50]⟩) = b at *
        generalize (bif cutI (preR s) then 2 else 1) = m at *
        by_cases h1 : natErr a = 5
        · exact bif_pos h1 (hk 5 (if_pos (.inl h1)))
        refine bif_neg h1 ?_
        by_cases h2 : natErr b = 5
        · exact bif_t (decide_eq_true h2) (hk 5 (if_pos (.inr (.inl h2))))
        refine bif_f (fun h => h2 (of_decide_eq_true h)) ?_
        by_cases h3 : a = zeroS
        · exact bif_t (bytes48.2 h3) (hk 5 (if_pos (.inr (.inr ⟨rfl, h3⟩))))
        refine bif_f (fun h => h3 (bytes48.1 h)) ?_
        refine err_tail hk hm ?_
        rintro (h | h | ⟨_, h⟩)
        · exact h1 h
        · exact h2 h
        · exact h3 h) 0 (Nat.zero_le _)
    rw [found_zero] at go
    exact go
  · have hss := preR_pos hb
    have hbf : preB s = false := by
      cases hc : preB s
      · rfl
      · exact absurd hc hb
    rw [hss] at hall hsz hm hk
    rw [hbf] at hk
    have fin : ∀ a b m, found s s.size = (a, b, m) → a.size ≤ 1000000000000000 ∧ b.size ≤ 1000000000000000 ∧ bif decide (Pure.natErr a = 5) then resK Q (AV.int IntKind.i64 5) [] else bif bif false then true else decide (Pure.natErr b = 5) then resK Q (AV.int IntKind.i64 5) [] else bif !decide (natErr a = 0) then resK Q (AV.int IntKind.i64 2) [] else bif bif false then true else !decide (natErr b = 0) then resK Q (AV.int IntKind.i64 2) [] else bif decide (m = 2) then bif b.toList == (ByteArray.mk #[48]).toList then resK Q (AV.int IntKind.i64 3) [] else bif bif false then true else b.toList == (ByteArray.mk #[49]).toList then resK Q (AV.int IntKind.i64 3) [] else ∃ u v, a = Sem.natText u ∧ b = Sem.natText v ∧ Sem.dg u ≤ 90000 ∧ Sem.dg v ≤ 90000 ∧ bif bif true then bif false then true else !(Sem.natText (u.gcd v)).toList == (ByteArray.mk #[49]).toList else false then resK Q (AV.int IntKind.i64 3) [] else resK Q (AV.int IntKind.i64 0) [] else resK Q (AV.int IntKind.i64 0) [] := fun a b m he => by
      have hz := hsz s.size
      rw [he] at hz hm
      rw [hall] at he
      obtain ⟨ha, he⟩ := Prod.mk.inj he
      obtain ⟨hb', hm'⟩ := Prod.mk.inj he
      rw [ha, hb', hm'] at hk
      refine ⟨hz.1, hz.2, ?_⟩
      by_cases h1 : natErr a = 5
      · exact bif_pos h1 (hk 5 (if_pos (.inl h1)))
      refine bif_neg h1 ?_
      by_cases h2 : natErr b = 5
      · exact bif_t (decide_eq_true h2) (hk 5 (if_pos (.inr (.inl h2))))
      refine bif_f (fun h => h2 (of_decide_eq_true h)) ?_
      refine err_tail hk hm ?_
      rintro (h | h | ⟨h, _⟩)
      · exact h1 h
      · exact h2 h
      · cases h
    have go2 := loopN (f := 34) (gn := fnT Tryd.f34) (n0 := n0) (K := resK Q) (r := 6) (by kernel_rfl) conX1_ok (inl := []) (LT := xerr_live) (NT := xerr_nils) (fun x : Nat => xerr_s6_2 s (found s x).2.2 (found s x).1 (found s x).2.1 (s.size : Int) (x : Int)) (fun x => s.size - x) (fun x => x ≤ s.size ∧ (found s x).2.2 = 2) (fun x hp ih => by
      rw [xerr_s6_2_E]
      obtain ⟨hp, h2⟩ := hp
      by_cases hx : x < s.size
      · have h1 : ¬ (found s x).2.2 = 1 := by omega
        have hsk := found_skip hx (.inr h1)
        refine bif_pos (by omega) (bif_and (bif_pos (by omega) (bif_pos (by omega) ?_)))
        have ih' := ih (x + 1) ⟨by omega, by rw [hsk]; exact h2⟩ (by omega)
        rw [Int.toNat_natCast, wrS hx (by omega)]
        rw [hsk] at ih'
        by_cases h47 : s.data.toList.getD x 0 = 47
        · exact bif_pos (b47.2 h47) (bif_f (by rw [cond_true]; exact fun h => h1 (of_decide_eq_true h)) ih')
        · exact bif_neg (fun h => h47 (b47.1 h)) ih'
      · refine bif_neg (by omega) ?_
        have hxx : x = s.size := by omega
        subst hxx
        exact fin _ _ _ rfl)
    have go := loopN (f := 34) (gn := fnT Tryd.f34) (n0 := n0) (K := resK Q) (r := 6) (by kernel_rfl) conX1_ok (inl := []) (LT := xerr_live) (NT := xerr_nils) (fun x : Nat => xerr_s6_1 s 1 ⟨#[50]⟩ (s.size : Int) (x : Int)) (fun x => s.size - x) (fun x => x ≤ s.size ∧ found s x = (s, ⟨#[50]⟩, 1)) (fun x hp ih => by
      rw [xerr_s6_1_E]
      obtain ⟨hp, h2⟩ := hp
      by_cases hx : x < s.size
      · have h1 : (found s x).2.2 = 1 := by rw [h2]
        refine bif_pos (by omega) (bif_and (bif_pos (by omega) (bif_pos (by omega) ?_)))
        rw [Int.toNat_natCast, wrS hx (by omega)]
        by_cases h47 : s.data.toList.getD x 0 = 47
        · refine bif_pos (b47.2 h47) (bif_t (by rw [cond_true]; rfl) (bif_and (bif_pos (by omega) (bif_pos (by omega) (bif_and (bif_and (bif_pos (by omega) (bif_pos (by omega) (bif_pos (by omega) ?_)))))))))
          obtain ⟨f1, f2⟩ := found_hit hx h47 h1
          have := go2 (x + 1) ⟨by omega, by rw [f2]⟩
          simp only [f2] at this
          rw [Int.toNat_natCast, Int.toNat_natCast]
          exact this
        · exact bif_neg (fun h => h47 (b47.1 h)) (ih (x + 1) ⟨by omega, by rw [found_skip hx (.inl h47)]; exact h2⟩ (by omega))
      · refine bif_neg (by omega) ?_
        have hxx : x = s.size := by omega
        subst hxx
        exact fin _ _ _ h2) 0 ⟨Nat.zero_le _, found_zero s⟩
    by_cases hs0 : 0 < s.size
    · refine bif_pos (by omega) (bif_pos (by omega) (bif_f (by rw [cond_true]; exact fun h => hb ((b45 hs0).1 (of_decide_eq_true h))) go))
    · exact bif_neg (by omega) go
end Go.Proofs.YtolikobhjmnedaaDoor.Lib
end
section
/- Package rat: texts and numbers; lists; the exported functions of two texts. -/
set_option linter.unusedVariables false
set_option linter.unusedSimpArgs false
namespace Go.Proofs.YtolikobhjmnedaaDoor.Lib
open Go Go.Proofs.YtolikobhjmnedaaDoor.Mach Go.Proofs.YtolikobhjmnedaaDoorW.PrintWords Go.Proofs.YtolikobhjmnedaaDoor.Sem Go.Proofs.YtolikobhjmnedaaDoor.Pure
theorem pre_join {s : ByteArray} (h : preB s = true) : s = ⟨#[45]⟩ ++ preR s := by
  rw [preR_neg h]
  have hd := h
  unfold preB at hd
  by_cases h1 : 1 ≤ s.size
  · rw [decide_eq_true h1, cond_true, beq_iff_eq, toList_eq_iff] at hd
    rw [← hd]
    apply ByteArray.ext
    rw [ByteArray.data_append, ByteArray.data_extract, ByteArray.data_extract, Array.extract_append_extract]
    have : s.size = s.data.size := rfl
    rw [this, Nat.min_eq_left (by omega), Nat.max_eq_right (by omega), Array.extract_size]
  · rw [decide_eq_false h1] at hd
    cases hd
theorem cut_join {s : ByteArray} (h : cutI s = true) : s = cutA s ++ (⟨#[47]⟩ ++ cutB s) := by
  unfold cutA cutB
  rw [h, cond_true, cond_true]
  unfold cutI at h
  have h0 := of_decide_eq_true h
  have hl := (firstIdx_lt s 47).2
  have hb : s.data.toList.getD (firstIdx s 47).toNat 0 = 47 := Classical.byContradiction fun hc => by
    have := fi_ne (s := s) (i := (firstIdx s 47).toNat) (by omega) hc
    omega
  generalize hi : (firstIdx s 47).toNat = i at *
  have hi' : i < s.size := by omega
  have hz : s.size = s.data.size := rfl
  have hll : s.data.toList.length = s.size := by rw [Array.length_toList]; rfl
  apply ByteArray.ext
  apply Array.ext'
  rw [ByteArray.data_append, ByteArray.data_append, ByteArray.data_extract, ByteArray.data_extract, Array.toList_append, Array.toList_append, Array.toList_extract, Array.toList_extract, List.extract_eq_take_drop, List.extract_eq_take_drop, List.drop_zero, Nat.sub_zero]
  rw [List.take_of_length_le (l := s.data.toList.drop (i + 1)) (by rw [List.length_drop]; omega)]
  have : s.data.toList.drop i = 47 :: s.data.toList.drop (i + 1) := by
    rw [List.drop_eq_getElem_cons (by omega)]
    congr 1
    rw [List.getD_eq_getElem?_getD, List.getElem?_eq_getElem (by omega)] at hb
    exact hb
  show s.data.toList = _ ++ ([47] ++ _)
  rw [List.singleton_append, ← this, List.take_append_drop]
theorem ratOf_text (q : Rat) : ratOf (ratText q) = q := by
  obtain ⟨p1, p2, p3, p4⟩ := rt_parts (decide (q.num < 0)) q.num.natAbs q.den
  change preB (ratText q) = _ at p1
  change cutA (preR (ratText q)) = _ at p2
  change cutI (preR (ratText q)) = _ at p3
  change q.den ≠ 1 → cutB (preR (ratText q)) = _ at p4
  unfold ratOf
  rw [p1, p2, numOf_text]
  by_cases h : q.den = 1
  · rw [if_neg (by rw [p3]; simpa using h)]
    rw [← h]; exact mkq_self q
  · rw [if_pos (by rw [p3]; simpa using h), p4 h, numOf_text]
    exact mkq_self q
theorem ratErr_text {q : Rat} (h : Sz 2000 q) : ratErr (ratText q) = 0 := by
  obtain ⟨p1, p2, p3, p4⟩ := rt_parts (decide (q.num < 0)) q.num.natAbs q.den
  change preB (ratText q) = _ at p1
  change cutA (preR (ratText q)) = _ at p2
  change cutI (preR (ratText q)) = _ at p3
  change q.den ≠ 1 → cutB (preR (ratText q)) = _ at p4
  have e1 := err_text (sz_n h)
  have e2 := err_text (sz_d h)
  have hd := den_pos q
  have hneg : ¬ (preB (ratText q) = true ∧ cutA (preR (ratText q)) = zeroS) := by
    rintro ⟨h1, h2⟩
    rw [p1] at h1
    rw [p2] at h2
    have := natText_inj (h2.trans natText_zero.symm)
    have := of_decide_eq_true h1
    omega
  unfold ratErr
  by_cases hd1 : q.den = 1
  · have hI : ¬ cutI (preR (ratText q)) = true := by rw [p3]; simpa using hd1
    rw [if_neg, if_neg, if_neg]
    · rintro ⟨h, _⟩; exact hI h
    · rintro (h | ⟨h, _⟩)
      · rw [p2] at h; exact h e1
      · exact hI h
    · rintro (h | ⟨h, _⟩ | h)
      · rw [p2, e1] at h; cases h
      · exact hI h
      · exact hneg h
  · have hB := p4 hd1
    rw [if_neg, if_neg, if_neg]
    · rintro ⟨_, h⟩
      rw [hB, p2, numOf_text, numOf_text] at h
      rcases h with h | h | h
      · have := natText_inj (h.trans natText_zero.symm); omega
      · have := natText_inj (h.trans natText_one.symm); omega
      · exact h q.reduced
    · rintro (h | ⟨_, h⟩)
      · rw [p2] at h; exact h e1
      · rw [hB] at h; exact h e2
    · rintro (h | ⟨_, h⟩ | h)
      · rw [p2, e1] at h; cases h
      · rw [hB, e2] at h; cases h
      · exact hneg h
/-- texts without errors are numbers -/
theorem rat_ok {s : ByteArray} (h : ratErr s = 0) : s = ratText (ratOf s) ∧ Sz 2000 (ratOf s) := by
  suffices h : ∃ q, s = ratText q ∧ Sz 2000 q by
    obtain ⟨q, rfl, hs⟩ := h
    rw [ratOf_text]
    exact ⟨rfl, hs⟩
  unfold ratErr at h
  by_cases h1 : natErr (cutA (preR s)) = 5 ∨ (cutI (preR s) = true ∧ natErr (cutB (preR s)) = 5) ∨ (preB s = true ∧ cutA (preR s) = zeroS)
  · rw [if_pos h1] at h; cases h
  rw [if_neg h1] at h
  by_cases h2 : natErr (cutA (preR s)) ≠ 0 ∨ (cutI (preR s) = true ∧ natErr (cutB (preR s)) ≠ 0)
  · rw [if_pos h2] at h; cases h
  rw [if_neg h2] at h
  by_cases h3 : cutI (preR s) = true ∧ (cutB (preR s) = zeroS ∨ cutB (preR s) = ⟨#[49]⟩ ∨ Nat.gcd (numOf (cutA (preR s))) (numOf (cutB (preR s))) ≠ 1)
  · rw [if_pos h3] at h; cases h
  obtain ⟨u, hu, hud⟩ := err_zero (Classical.byContradiction fun hc => h2 (.inl hc))
  have hsj : s = (bif preB s then ⟨#[45]⟩ else ⟨#[]⟩) ++ preR s := by
    cases hb : preB s with
    | true => rw [cond_true]; exact pre_join hb
    | false => rw [cond_false, empty_app]; exact (preR_pos (by rw [hb]; decide)).symm
  have hneg : u = 0 → preB s = false := fun h0 => by
    cases hb : preB s with
    | false => rfl
    | true => exact absurd (.inr (.inr ⟨hb, by rw [hu, h0, natText_zero]⟩)) h1
  cases hI : cutI (preR s) with
  | true =>
    obtain ⟨v, hv, hvd⟩ := err_zero (Classical.byContradiction fun hc => h2 (.inr ⟨hI, hc⟩))
    have hv0 : v ≠ 0 := fun h0 => h3 ⟨hI, .inl (by rw [hv, h0, natText_zero])⟩
    have hv1 : v ≠ 1 := fun h0 => h3 ⟨hI, .inr (.inl (by rw [hv, h0, natText_one]))⟩
    have hg : Nat.gcd u v = 1 := Classical.byContradiction fun hc => h3 ⟨hI, .inr (.inr (by rw [hu, hv, numOf_text, numOf_text]; exact hc))⟩
    have hu0 : 0 < u := Nat.pos_of_ne_zero fun h0 => by rw [h0, Nat.gcd_zero_left] at hg; exact hv1 hg
    refine ⟨mkq (preB s) u v, ?_, ?_, ?_⟩
    · rw [ratText_mkq (by omega) hu0, hg, Nat.div_one, Nat.div_one]
      unfold rt
      rw [if_neg hv1, ByteArray.append_assoc, ← hu, ← hv, ← cut_join hI]
      exact hsj
    · exact Nat.le_trans (szN_mkq (by omega)) hud
    · exact Nat.le_trans (szD_mkq (by omega)) hvd
  | false =>
    have hA : cutA (preR s) = preR s := by unfold cutA; rw [hI]; rfl
    refine ⟨mkq (preB s) u 1, ?_, ?_, ?_⟩
    · by_cases hu0 : u = 0
      · rw [hu0, mkq_zero, ratText_zero, ← natText_zero]
        rw [hneg hu0, cond_false, empty_app] at hsj
        rw [hsj, ← hA, hu, hu0]
      · rw [ratText_mkq (by omega) (by omega), Nat.gcd_one_right, Nat.div_one, Nat.div_one]
        unfold rt
        rw [if_pos rfl, app_empty, ← hu, hA]
        exact hsj
    · exact Nat.le_trans (szN_mkq (by omega)) hud
    · exact Nat.le_trans (szD_mkq (by omega)) (by rw [dg_one]; decide)
end Go.Proofs.YtolikobhjmnedaaDoor.Lib
end
section
/- Package rat: lists of texts; the exported functions of two texts. -/
set_option linter.unusedVariables false
set_option linter.unusedSimpArgs false
namespace Go.Proofs.YtolikobhjmnedaaDoor.Lib
open Go Go.Proofs.YtolikobhjmnedaaDoor.Mach Go.Proofs.YtolikobhjmnedaaDoorW.PrintWords Go.Proofs.YtolikobhjmnedaaDoor.Sem Go.Proofs.YtolikobhjmnedaaDoor.Pure
theorem errs_at {l : List ByteArray} {x : Nat} (hx : x < l.length) : ratErrs (l.drop x) = if ratErr (l.getD x ByteArray.empty) = 0 then ratErrs (l.drop (x + 1)) else ratErr (l.getD x ByteArray.empty) := by
  rw [List.drop_eq_getElem_cons hx, List.getD_eq_getElem?_getD, List.getElem?_eq_getElem hx]
  rfl
theorem getD_mem {α : Type} {l : List α} {x : Nat} {d : α} (hx : x < l.length) : l.getD x d ∈ l := by
  rw [List.getD_eq_getElem?_getD, List.getElem?_eq_getElem hx]
  exact List.getElem_mem hx
theorem conQ4_ok : ∀ g xs Q, conQ4 g xs Q → Con Tryd.prog g xs Q := table_ok fun p hp => by
  simp only [List.mem_cons, List.not_mem_nil, or_false] at hp
  rcases hp with rfl
  exact c1_ok fun _ _ h => rcheck_con h
theorem rchecks_con {l : List ByteArray} {Q : Res} (h : rchecksS l Q) : Con Tryd.prog 35 [.imm eS l] Q := by
  obtain ⟨⟨hl, ht⟩, hq⟩ := h
  refine conN (gn := fnT Tryd.f35) (by kernel_rfl) conQ4_ok (inl := []) (LT := qchecks_live) (NT := qchecks_nils) rfl fun n0 => ?_
  rw [qchecks_E]
  refine loopN (f := 35) (gn := fnT Tryd.f35) (n0 := n0) (K := resK Q) (r := 2) (by kernel_rfl) conQ4_ok (inl := []) (LT := qchecks_live) (NT := qchecks_nils) (fun x : Nat => qchecks_s2_0 l (l.length : Int) (x : Int)) (fun x => l.length - x) (fun x => x ≤ l.length ∧ ratErrs (l.drop x) = ratErrs l) (fun x hp ih => ?_) 0 ⟨Nat.zero_le _, rfl⟩
  obtain ⟨hp, he⟩ := hp
  rw [qchecks_s2_0_E]
  by_cases hx : x < l.length
  · rw [errs_at hx] at he
    refine bif_pos (by omega) (bif_and (bif_pos (by omega) (bif_pos (by omega) ?_)))
    rw [Int.toNat_natCast, wrS hx (by omega)]
    refine ⟨ht _ (getD_mem hx), ?_⟩
    by_cases h0 : ratErr (l.getD x ByteArray.empty) = 0
    · rw [if_pos h0] at he
      exact bif_not (bif_pos h0 (ih (x + 1) ⟨by omega, he⟩ (by omega)))
    · rw [if_neg h0] at he
      rw [← he] at hq
      exact bif_not (bif_neg h0 (res_int hq))
  · refine bif_neg (by omega) (res_int ?_)
    rw [List.drop_eq_nil_of_le (by omega)] at he
    rw [← he] at hq
    exact hq
theorem xerrs_con0 {l : List ByteArray} {Q : Res} (h : rchecksS l Q) (hC : ∀ g xs Q, conX3 g xs Q → Con Tryd.prog g xs Q) : Con Tryd.prog 36 [.imm eS l] Q := by
  obtain ⟨⟨hl, ht⟩, hq⟩ := h
  refine conN (gn := fnT Tryd.f36) (by kernel_rfl) hC (inl := []) (LT := xerrs_live) (NT := xerrs_nils) rfl fun n0 => ?_
  rw [xerrs_E]
  refine loopN (f := 36) (gn := fnT Tryd.f36) (n0 := n0) (K := resK Q) (r := 2) (by kernel_rfl) hC (inl := []) (LT := xerrs_live) (NT := xerrs_nils) (fun x : Nat => xerrs_s2_0 l (l.length : Int) (x : Int)) (fun x => l.length - x) (fun x => x ≤ l.length ∧ ratErrs (l.drop x) = ratErrs l) (fun x hp ih => ?_) 0 ⟨Nat.zero_le _, rfl⟩
  obtain ⟨hp, he⟩ := hp
  rw [xerrs_s2_0_E]
  by_cases hx : x < l.length
  · rw [errs_at hx] at he
    refine bif_pos (by omega) (bif_and (bif_pos (by omega) (bif_pos (by omega) ?_)))
    rw [Int.toNat_natCast, wrS hx (by omega)]
    refine ⟨ht _ (getD_mem hx), ?_⟩
    by_cases h0 : ratErr (l.getD x ByteArray.empty) = 0
    · rw [if_pos h0] at he
      exact bif_not (bif_pos h0 (ih (x + 1) ⟨by omega, he⟩ (by omega)))
    · rw [if_neg h0] at he
      rw [← he] at hq
      exact bif_not (bif_neg h0 (res_int hq))
  · refine bif_neg (by omega) (res_int ?_)
    rw [List.drop_eq_nil_of_le (by omega)] at he
    rw [← he] at hq
    exact hq
theorem conX3_ok : ∀ g xs Q, conX3 g xs Q → Con Tryd.prog g xs Q := table_ok fun p hp => by
  simp only [List.mem_cons, List.not_mem_nil, or_false] at hp
  rcases hp with rfl | rfl | rfl | rfl
  · exact c1_ok fun _ _ h => xneg_con h
  · exact c2_ok fun _ _ _ h => xadd_con h
  · exact c1_ok fun _ _ h => xerr_con h
  · exact c1_ok fun _ _ h => rint_conS h
theorem xerrs_con {l : List ByteArray} {Q : Res} (h : rchecksS l Q) : Con Tryd.prog 36 [.imm eS l] Q := xerrs_con0 h conX3_ok
/-! ### the reference's RatSub and RatCmp -/
theorem xsub_con {s t : ByteArray} {Q : Res} (h : xsub s t Q) : Con Tryd.prog 43 [.str s, .str t] Q := by
  obtain ⟨x, y, rfl, rfl, sx, sy, hq⟩ := h
  refine conN (gn := fnT Tryd.f43) (by kernel_rfl) conX3_ok (inl := []) (LT := xsub_live) (NT := xsub_nils) rfl fun n0 => ?_
  rw [xsub_E]
  rw [Rat.sub_eq_add_neg] at hq
  exact ⟨y, rfl, sy, x, -y, rfl, rfl, sx, sz_neg sy, res_str hq⟩
theorem sz_add {x y : Rat} (sx : Sz 40000 x) (sy : Sz 40000 y) : Sz 90000 (x + y) := by
  have e1 := sz_n sx; have e2 := sz_d sx; have e3 := sz_n sy; have e4 := sz_d sy
  have m1 := dg_mul2 e1 e4
  have m2 := dg_mul2 e3 e2
  have m3 := dg_mul2 e2 e4
  have px := den_pos x
  have py := den_pos y
  have hsum : x + y = mkq (decide (x.num < 0)) x.num.natAbs x.den + mkq (decide (y.num < 0)) y.num.natAbs y.den := by rw [mkq_self, mkq_self]
  rw [mkq_add _ _ _ _ _ _ px py] at hsum
  have hD : ∀ b u, szD (mkq b u (x.den * y.den)) ≤ 90000 := fun b u => Nat.le_trans (szD_mkq (Nat.mul_pos px py)) (by omega)
  have hN : ∀ b u, dg u ≤ 90000 → szN (mkq b u (x.den * y.den)) ≤ 90000 := fun b u h => Nat.le_trans (szN_mkq (Nat.mul_pos px py)) h
  have a1 := dg_add m1 m2
  have a2 := dg_mono (Nat.sub_le (x.num.natAbs * y.den) (y.num.natAbs * x.den))
  have a3 := dg_mono (Nat.sub_le (y.num.natAbs * x.den) (x.num.natAbs * y.den))
  rw [hsum]
  split
  · exact ⟨hN _ _ (by omega), hD _ _⟩
  · split
    · exact ⟨hN _ _ (by omega), hD _ _⟩
    · exact ⟨hN _ _ (by omega), hD _ _⟩
theorem sz_sub {x y : Rat} (sx : Sz 40000 x) (sy : Sz 40000 y) : Sz 90000 (x - y) := by
  rw [Rat.sub_eq_add_neg]
  exact sz_add sx (sz_neg sy)
theorem sz_mul {x y : Rat} (sx : Sz 40000 x) (sy : Sz 40000 y) : Sz 90000 (x * y) := by
  have e1 := sz_n sx; have e2 := sz_d sx; have e3 := sz_n sy; have e4 := sz_d sy
  have m1 := dg_mul2 e1 e3
  have m3 := dg_mul2 e2 e4
  have hprod : x * y = mkq (decide (x.num < 0)) x.num.natAbs x.den * mkq (decide (y.num < 0)) y.num.natAbs y.den := by rw [mkq_self, mkq_self]
  rw [mkq_mul] at hprod
  rw [hprod]
  have hp := Nat.mul_pos (den_pos x) (den_pos y)
  exact ⟨Nat.le_trans (szN_mkq hp) (by omega), Nat.le_trans (szD_mkq hp) (by omega)⟩
theorem sz_zero : Sz 1 0 := by
  refine ⟨?_, ?_⟩
  · show dg (Rat.num 0).natAbs ≤ 1
    rw [show (Rat.num 0).natAbs = 0 from rfl, dg_zero]
    exact Nat.le_refl _
  · show dg (Rat.den 0) ≤ 1
    rw [show Rat.den 0 = 1 from rfl, dg_one]
    exact Nat.le_refl _
theorem sz_quo {x y : Rat} (sx : Sz 40000 x) (sy : Sz 40000 y) : Sz 90000 (x / y) := by
  by_cases h1 : y = 0
  · rw [h1, Rat.div_def, Rat.inv_zero, Rat.mul_zero]
    exact sz_zero.mono (by decide)
  have e1 := sz_n sx; have e2 := sz_d sx; have e3 := sz_n sy; have e4 := sz_d sy
  have m1 := dg_mul2 e1 e4
  have m3 := dg_mul2 e2 e3
  have hy : 0 < y.num.natAbs := by
    have : y.num ≠ 0 := fun h => h1 (Rat.num_eq_zero.1 h)
    omega
  have hquo : x / y = mkq (decide (x.num < 0)) x.num.natAbs x.den / mkq (decide (y.num < 0)) y.num.natAbs y.den := by rw [mkq_self, mkq_self]
  rw [mkq_quo _ _ _ _ _ _ (den_pos x) hy (den_pos y)] at hquo
  rw [hquo]
  have hp := Nat.mul_pos (den_pos x) hy
  exact ⟨Nat.le_trans (szN_mkq hp) (by omega), Nat.le_trans (szD_mkq hp) (by omega)⟩
theorem sz_floor {q : Rat} (sq : Sz 40000 q) : Sz 90000 ((q.floor : Int) : Rat) := by
  rw [floor_mk q rfl]
  have e1 := sz_n sq
  have e3 := dg_mono (Nat.div_le_self q.num.natAbs q.den)
  have e4 : dg (q.num.natAbs / q.den + 1) ≤ 40001 := dg_add (v := 1) (k := 40000) (by omega) (by rw [dg_one]; decide)
  refine ⟨Nat.le_trans (szN_mkq (by decide)) ?_, Nat.le_trans (szD_mkq (by decide)) (by rw [dg_one]; decide)⟩
  split <;> omega
theorem conX4_ok : ∀ g xs Q, conX4 g xs Q → Con Tryd.prog g xs Q := table_ok fun p hp => by
  simp only [List.mem_cons, List.not_mem_nil, or_false] at hp
  rcases hp with rfl | rfl
  · exact c2_ok fun _ _ _ h => xsub_con h
  · exact c1_ok fun _ _ h => xsign_con h
theorem xcmp_con {s t : ByteArray} {Q : Res} (h : xcmp s t Q) : Con Tryd.prog 52 [.str s, .str t] Q := by
  obtain ⟨x, y, rfl, rfl, sx, sy, hq⟩ := h
  refine conN (gn := fnT Tryd.f52) (by kernel_rfl) conX4_ok (inl := []) (LT := xcmp_live) (NT := xcmp_nils) rfl fun n0 => ?_
  rw [xcmp_E]
  exact ⟨x, y, rfl, rfl, sx, sy, x - y, rfl, sz_sub sx sy, res_int hq⟩
/-! ### the exported functions -/
theorem conQ5_ok : ∀ g xs Q, conQ5 g xs Q → Con Tryd.prog g xs Q := table_ok fun p hp => by
  simp only [List.mem_cons, List.not_mem_nil, or_false] at hp
  rcases hp with rfl | rfl | rfl | rfl | rfl | rfl | rfl | rfl | rfl | rfl | rfl | rfl | rfl | rfl | rfl | rfl
  · exact c1_ok fun _ _ h => rcheck_con h
  · exact c1_ok fun _ _ h => rchecks_con h
  · exact c2_ok fun _ _ _ h => add_con h
  · exact c2_ok fun _ _ _ h => sub_con h
  · exact c2_ok fun _ _ _ h => mul_con h
  · exact c2_ok fun _ _ _ h => quo_con h
  · exact c1_ok fun _ _ h => neg_con h
  · exact c1_ok fun _ _ h => sign_con h
  · exact c2_ok fun _ _ _ h => cmp_con h
  · exact c1_ok fun _ _ h => down_con h
  · exact c1_ok fun _ _ h => out_con h
  · exact c1_ok fun _ _ h => in_con h
  · exact c1_ok fun _ _ h => told_con h
  · exact c1_ok fun _ _ h => fits_con h
  · exact c3_ok fun _ _ _ _ h => low_con h
  · exact c1_ok fun _ _ h => size_con h
theorem errs_two {s t : ByteArray} (h : ratErrs [s, t] = 0) : ratErr s = 0 ∧ ratErr t = 0 := by
  unfold ratErrs at h
  split at h
  · rename_i h0
    refine ⟨h0, ?_⟩
    unfold ratErrs at h
    split at h
    · rename_i h1; exact h1
    · exact h
  · rename_i h0; exact absurd h h0
theorem txl_two {s t : ByteArray} (h1 : Tx s) (h2 : Tx t) : TxL [s, t] := ⟨show 2 ≤ 1000000000000000 by decide, fun x hx => by
  simp only [List.mem_cons, List.not_mem_nil, or_false] at hx
  rcases hx with rfl | rfl
  · exact h1
  · exact h2⟩
theorem res_tell {Q : Res} {e : Int} {q : Rat} {H : List HObj} (h : Q (tellV e q) []) : (e ≠ 0 → resK Q (.tup [.str ⟨#[]⟩, .int .i64 e]) H) ∧ (e = 0 → resK Q (.tup [.str (toldV q), .int .i64 (fitV q)]) H) := by
  refine ⟨fun h0 => ?_, fun h0 => ?_⟩
  · unfold tellV tellS tellE at h
    rw [if_neg h0, if_neg h0] at h
    exact res_plain h rfl rfl
  · unfold tellV tellS tellE at h
    rw [if_pos h0, if_pos h0] at h
    exact res_plain h rfl rfl
section
variable {s t : ByteArray} {Q : Res}
theorem tadd_con (h : addT s t Q) : Con Tryd.prog 39 [.str s, .str t] Q := by
  obtain ⟨⟨h1, h2⟩, hq⟩ := h
  refine conN (gn := fnT Tryd.f39) (by kernel_rfl) conQ5_ok (inl := [85]) (LT := qtadd_live) (NT := qtadd_nils) rfl fun n0 => ?_
  rw [qtadd_E]
  refine ⟨txl_two h1 h2, ?_⟩
  by_cases h0 : ratErrs [s, t] = 0
  · obtain ⟨e1, e2⟩ := errs_two h0
    obtain ⟨a1, a2⟩ := rat_ok e1
    obtain ⟨b1, b2⟩ := rat_ok e2
    have sx := a2.mono (m := 40000) (by decide)
    have sy := b2.mono (m := 40000) (by decide)
    exact bif_not (bif_pos h0 ⟨_, a1, sx, fun z hz => ⟨_, b1, sy, fun w hw => ⟨_, _, hz, hw, sx, sy, fun r hr => ⟨_, hr, sz_add sx sy, (res_tell hq).2 h0⟩⟩⟩⟩)
  · exact bif_not (bif_neg h0 ((res_tell hq).1 h0))
theorem tsub_con (h : subT s t Q) : Con Tryd.prog 40 [.str s, .str t] Q := by
  obtain ⟨⟨h1, h2⟩, hq⟩ := h
  refine conN (gn := fnT Tryd.f40) (by kernel_rfl) conQ5_ok (inl := [85]) (LT := qtsub_live) (NT := qtsub_nils) rfl fun n0 => ?_
  rw [qtsub_E]
  refine ⟨txl_two h1 h2, ?_⟩
  by_cases h0 : ratErrs [s, t] = 0
  · obtain ⟨e1, e2⟩ := errs_two h0
    obtain ⟨a1, a2⟩ := rat_ok e1
    obtain ⟨b1, b2⟩ := rat_ok e2
    have sx := a2.mono (m := 40000) (by decide)
    have sy := b2.mono (m := 40000) (by decide)
    exact bif_not (bif_pos h0 ⟨_, a1, sx, fun z hz => ⟨_, b1, sy, fun w hw => ⟨_, _, hz, hw, sx, sy, fun r hr => ⟨_, hr, sz_sub sx sy, (res_tell hq).2 h0⟩⟩⟩⟩)
  · exact bif_not (bif_neg h0 ((res_tell hq).1 h0))
theorem tmul_con (h : mulT s t Q) : Con Tryd.prog 45 [.str s, .str t] Q := by
  obtain ⟨⟨h1, h2⟩, hq⟩ := h
  refine conN (gn := fnT Tryd.f45) (by kernel_rfl) conQ5_ok (inl := [85]) (LT := qtmul_live) (NT := qtmul_nils) rfl fun n0 => ?_
  rw [qtmul_E]
  refine ⟨txl_two h1 h2, ?_⟩
  by_cases h0 : ratErrs [s, t] = 0
  · obtain ⟨e1, e2⟩ := errs_two h0
    obtain ⟨a1, a2⟩ := rat_ok e1
    obtain ⟨b1, b2⟩ := rat_ok e2
    have sx := a2.mono (m := 40000) (by decide)
    have sy := b2.mono (m := 40000) (by decide)
    exact bif_not (bif_pos h0 ⟨_, a1, sx, fun z hz => ⟨_, b1, sy, fun w hw => ⟨_, _, hz, hw, sx, sy, fun r hr => ⟨_, hr, sz_mul sx sy, (res_tell hq).2 h0⟩⟩⟩⟩)
  · exact bif_not (bif_neg h0 ((res_tell hq).1 h0))
theorem tdiv_con (h : divT s t Q) : Con Tryd.prog 46 [.str s, .str t] Q := by
  obtain ⟨⟨h1, h2⟩, hq⟩ := h
  refine conN (gn := fnT Tryd.f46) (by kernel_rfl) conQ5_ok (inl := [85]) (LT := qtdiv_live) (NT := qtdiv_nils) rfl fun n0 => ?_
  rw [qtdiv_E]
  refine ⟨txl_two h1 h2, ?_⟩
  unfold divE at hq
  by_cases h0 : ratErrs [s, t] = 0
  · obtain ⟨e1, e2⟩ := errs_two h0
    obtain ⟨a1, a2⟩ := rat_ok e1
    obtain ⟨b1, b2⟩ := rat_ok e2
    have sx := a2.mono (m := 40000) (by decide)
    have sy := b2.mono (m := 40000) (by decide)
    refine bif_not (bif_pos h0 ?_)
    by_cases hz : t = zeroS
    · rw [if_pos ⟨h0, hz⟩] at hq
      exact bif_t (bytes48.2 hz) ((res_tell hq).1 (by decide))
    · rw [if_neg fun h => hz h.2] at hq
      exact bif_f (fun h => hz (bytes48.1 h)) ⟨txl_two h1 h2, bif_not (bif_pos h0 ⟨_, a1, sx, fun z hz => ⟨_, b1, sy, fun w hw => ⟨_, _, hz, hw, sx, sy, fun r hr => ⟨_, hr, sz_quo sx sy, (res_tell hq).2 h0⟩⟩⟩⟩)⟩
  · rw [if_neg fun h => h0 h.1] at hq
    exact bif_not (bif_neg h0 ((res_tell hq).1 h0))
theorem tneg_con (h : negT s Q) : Con Tryd.prog 41 [.str s] Q := by
  obtain ⟨h1, hq⟩ := h
  refine conN (gn := fnT Tryd.f41) (by kernel_rfl) conQ5_ok (inl := []) (LT := qtneg_live) (NT := qtneg_nils) rfl fun n0 => ?_
  rw [qtneg_E]
  refine ⟨h1, ?_⟩
  unfold negV at hq
  by_cases h0 : ratErr s = 0
  · obtain ⟨a1, a2⟩ := rat_ok h0
    rw [if_pos h0, h0] at hq
    exact bif_not (bif_pos h0 ⟨_, a1, a2.mono (by decide), fun z hz => ⟨_, hz, fun r hr => ⟨_, hr, sz_neg (a2.mono (by decide)), res_plain hq rfl rfl⟩⟩⟩)
  · rw [if_neg h0] at hq
    exact bif_not (bif_neg h0 (res_plain hq rfl rfl))
theorem tcmp_con (h : cmpT s t Q) : Con Tryd.prog 48 [.str s, .str t] Q := by
  obtain ⟨⟨h1, h2⟩, hq⟩ := h
  refine conN (gn := fnT Tryd.f48) (by kernel_rfl) conQ5_ok (inl := []) (LT := qtcmp_live) (NT := qtcmp_nils) rfl fun n0 => ?_
  rw [qtcmp_E]
  refine ⟨txl_two h1 h2, ?_⟩
  unfold cmpV at hq
  by_cases h0 : ratErrs [s, t] = 0
  · obtain ⟨e1, e2⟩ := errs_two h0
    obtain ⟨a1, a2⟩ := rat_ok e1
    obtain ⟨b1, b2⟩ := rat_ok e2
    have sx := a2.mono (m := 40000) (by decide)
    have sy := b2.mono (m := 40000) (by decide)
    rw [if_pos h0, h0] at hq
    exact bif_not (bif_pos h0 ⟨_, a1, sx, fun z hz => ⟨_, b1, sy, fun w hw => ⟨_, _, hz, hw, sx, sy, res_plain hq rfl rfl⟩⟩⟩)
  · rw [if_neg h0] at hq
    exact bif_not (bif_neg h0 (res_plain hq rfl rfl))
theorem tsign_con (h : signT s Q) : Con Tryd.prog 49 [.str s] Q := by
  obtain ⟨h1, hq⟩ := h
  refine conN (gn := fnT Tryd.f49) (by kernel_rfl) conQ5_ok (inl := []) (LT := qtsign_live) (NT := qtsign_nils) rfl fun n0 => ?_
  rw [qtsign_E]
  refine ⟨h1, ?_⟩
  unfold signV at hq
  by_cases h0 : ratErr s = 0
  · obtain ⟨a1, a2⟩ := rat_ok h0
    rw [if_pos h0, h0] at hq
    exact bif_not (bif_pos h0 ⟨_, a1, a2.mono (by decide), fun z hz => ⟨_, hz, res_plain hq rfl rfl⟩⟩)
  · rw [if_neg h0] at hq
    exact bif_not (bif_neg h0 (res_plain hq rfl rfl))
theorem tfloor_con (h : floorT s Q) : Con Tryd.prog 50 [.str s] Q := by
  obtain ⟨h1, hq⟩ := h
  refine conN (gn := fnT Tryd.f50) (by kernel_rfl) conQ5_ok (inl := []) (LT := qtfloor_live) (NT := qtfloor_nils) rfl fun n0 => ?_
  rw [qtfloor_E]
  refine ⟨h1, ?_⟩
  by_cases h0 : ratErr s = 0
  · obtain ⟨a1, a2⟩ := rat_ok h0
    have sx := a2.mono (m := 40000) (by decide)
    exact bif_not (bif_pos h0 ⟨_, a1, sx, fun z hz => ⟨_, hz, sx, fun r hr => ⟨_, hr, sz_floor sx, (res_tell hq).2 h0⟩⟩⟩)
  · exact bif_not (bif_neg h0 ((res_tell hq).1 h0))
theorem int_mkq (n : Int) : (n : Rat) = mkq (decide (n < 0)) n.natAbs 1 := by
  unfold mkq sg
  rw [Rat.mkRat_one]
  congr 1
  by_cases h : n < 0
  · rw [if_pos (decide_eq_true h)]; omega
  · rw [if_neg (by simpa using h)]; omega
theorem of_con {n d : Int} (h : ofQ n d Q) : Con Tryd.prog 37 [.int .i64 n, .int .i64 d] Q := by
  obtain ⟨⟨h1, h2⟩, hq⟩ := h
  refine conN (gn := fnT Tryd.f37) (by kernel_rfl) conQ5_ok (inl := []) (LT := qof_live) (NT := qof_nils) rfl fun n0 => ?_
  rw [qof_E]
  unfold ofE at hq
  by_cases h0 : d = 0
  · rw [if_pos h0] at hq
    exact bif_pos h0 ((res_tell hq).1 (by decide))
  · rw [if_neg h0] at hq
    have hn : dg n.natAbs ≤ 20 := dg_word (by have := h1.1; have := h1.2; omega)
    have hd : dg d.natAbs ≤ 20 := dg_word (by have := h2.1; have := h2.2; omega)
    have he : (n : Rat) / (d : Rat) = mkq (!decide (n < 0) == decide (d < 0)) n.natAbs d.natAbs := by
      rw [int_mkq n, int_mkq d, mkq_quo _ _ _ _ _ _ (by decide) (by omega) (by decide), Nat.mul_one, Nat.one_mul]
      rfl
    refine bif_neg h0 ⟨h1, h2, _, _, rfl, rfl, by omega, by omega, by omega, fun z hz => ⟨_, hz, ⟨Nat.le_trans (szN_mkq (by omega)) (by omega), Nat.le_trans (szD_mkq (by omega)) (by omega)⟩, ?_⟩⟩
    rw [he] at hq
    exact (res_tell hq).2 rfl
end
end Go.Proofs.YtolikobhjmnedaaDoor.Lib
end
section
/- The laws of package rat: what they call, by contracts. -/
set_option linter.unusedVariables false
namespace Go.Proofs.YtolikobhjmnedaaDoor.Lib
open Go Go.Proofs.YtolikobhjmnedaaDoor.Mach Go.Proofs.YtolikobhjmnedaaDoorW.PrintWords Go.Proofs.YtolikobhjmnedaaDoor.Sem Go.Proofs.YtolikobhjmnedaaDoor.Pure
theorem con_known {k : Known} (h : KnownOk Tryd.prog k) {Q : Res} (hQ : Q k.v k.objs) : Con Tryd.prog k.g k.args Q := Con.mono h fun v objs h => by
  obtain ⟨h1, h2⟩ := h
  rw [h1, h2]
  exact hQ
def trueS (Q : Res) : Prop := Q (.bool true) []
theorem ratFact_con {Q : Res} (h : trueS Q) : Con Tryd.prog 32 [] Q := con_known rfact0_ok h
noncomputable def conW1 : FuncId → List AV → Res → Prop := tableC [(32, c0 trueS), (33, c1 vS rcheckS), (35, c1 vLS rchecksS), (37, c2 vI vI ofQ), (39, c2 vS vS addT), (40, c2 vS vS subT), (45, c2 vS vS mulT), (46, c2 vS vS divT), (41, c1 vS negT), (48, c2 vS vS cmpT), (49, c1 vS signT), (50, c1 vS floorT),
  (34, c1 vS rcheckS), (36, c1 vLS rchecksS), (31, c1 vI xint), (44, c1 vS xneg), (42, c2 vS vS xadd), (43, c2 vS vS xsub), (47, c2 vS vS xmul), (38, c2 vS vS xdiv), (53, c1 vS xsign), (52, c2 vS vS xcmp), (54, c1 vS xfloor)]
theorem conW1_ok : ∀ g xs Q, conW1 g xs Q → Con Tryd.prog g xs Q := table_ok fun p hp => by
  simp only [List.mem_cons, List.not_mem_nil, or_false] at hp
  rcases hp with rfl | rfl | rfl | rfl | rfl | rfl | rfl | rfl | rfl | rfl | rfl | rfl | rfl | rfl | rfl | rfl | rfl | rfl | rfl | rfl | rfl | rfl | rfl
  · exact c0_ok fun _ h => ratFact_con h
  · exact c1_ok fun _ _ h => rcheck_con h
  · exact c1_ok fun _ _ h => rchecks_con h
  · exact c2_ok fun _ _ _ h => of_con h
  · exact c2_ok fun _ _ _ h => tadd_con h
  · exact c2_ok fun _ _ _ h => tsub_con h
  · exact c2_ok fun _ _ _ h => tmul_con h
  · exact c2_ok fun _ _ _ h => tdiv_con h
  · exact c1_ok fun _ _ h => tneg_con h
  · exact c2_ok fun _ _ _ h => tcmp_con h
  · exact c1_ok fun _ _ h => tsign_con h
  · exact c1_ok fun _ _ h => tfloor_con h
  · exact c1_ok fun _ _ h => xerr_con h
  · exact c1_ok fun _ _ h => xerrs_con h
  · exact c1_ok fun _ _ h => xint_con h
  · exact c1_ok fun _ _ h => xneg_con h
  · exact c2_ok fun _ _ _ h => xadd_con h
  · exact c2_ok fun _ _ _ h => xsub_con h
  · exact c2_ok fun _ _ _ h => xmul_con h
  · exact c2_ok fun _ _ _ h => xdiv_con h
  · exact c1_ok fun _ _ h => xsign_con h
  · exact c2_ok fun _ _ _ h => xcmp_con h
  · exact c1_ok fun _ _ h => xfloor_con h
end Go.Proofs.YtolikobhjmnedaaDoor.Lib
end
section
/- Equations of functions (printed). -/
namespace Go.Proofs.YtolikobhjmnedaaDoor.Mach
open Go Go.Proofs.YtolikobhjmnedaaDoor Go.Proofs.YtolikobhjmnedaaDoor.Lib
set_option linter.unusedVariables false
def wchecks_live : List (Nat × List Nat) := []
def wchecks_nils : List (Nat × ETy) := []
set_option maxRecDepth 1000000 in
theorem wchecks_E (a : ByteArray) (b : ByteArray) (n0 : Nat) (K : AV → List HObj → Prop) :
    execN tab (mixE tab conW1 [] 400) (maskN wchecks_live wchecks_nils (GoodL Tryd.prog n0 7 K)) (finK tab (fnT Tryd.f7).res K) 400 [.code (fnT Tryd.f7).body] ⟨initEnv (fnT Tryd.f7).n [AV.str a, AV.str b], []⟩ =
    (Tx a ∧ Tx a ∧ bif decide (ratErr a = ratErr a) then Tx b ∧ Tx b ∧ bif bif true then decide (ratErr b = ratErr b) else false then TxL [a, b] ∧ TxL [a, b] ∧ K (AV.bool (bif true then decide (ratErrs [a, b] = ratErrs [a, b]) else false)) [HObj.typed (ETy.one CTy.str) [a, b] false] else K (AV.bool false) [HObj.typed (ETy.one CTy.str) [a, b] false] else K (AV.bool false) [HObj.typed (ETy.one CTy.str) [a, b] false]) := by kernel_rfl
def wofs_live : List (Nat × List Nat) := []
def wofs_nils : List (Nat × ETy) := []
set_option maxRecDepth 1000000 in
theorem wofs_E (n : Int) (d : Int) (n0 : Nat) (K : AV → List HObj → Prop) :
    execN tab (mixE tab conW1 [] 400) (maskN wofs_live wofs_nils (GoodL Tryd.prog n0 8 K)) (finK tab (fnT Tryd.f8).res K) 400 [.code (fnT Tryd.f8).body] ⟨initEnv (fnT Tryd.f8).n [AV.int IntKind.i64 n, AV.int IntKind.i64 d], []⟩ =
    ((I64 n ∧ I64 d) ∧ bif decide (d = 0) then bif decide (tellE (ofE d) ((↑n : Rat) / (↑d : Rat)) = 18) then K (AV.bool (bif true then (tellS (ofE d) ((↑n : Rat) / (↑d : Rat))).toList == (ByteArray.mk #[]).toList else false)) [] else K (AV.bool false) [] else bif decide (tellE (ofE d) ((↑n : Rat) / (↑d : Rat)) = 0) then I64 n ∧ I64 d ∧ ∃ x y, Sem.ratText (↑n : Rat) = Sem.ratText x ∧ Sem.ratText (↑d : Rat) = Sem.ratText y ∧ Sz 40000 x ∧ Sz 40000 y ∧ y ≠ 0 ∧ K (AV.bool (bif true then (tellS (ofE d) ((↑n : Rat) / (↑d : Rat))).toList == (Sem.ratText (x / y)).toList else false)) [] else K (AV.bool false) []) := by kernel_rfl
def wsums_live : List (Nat × List Nat) := []
def wsums_nils : List (Nat × ETy) := []
set_option maxRecDepth 1000000 in
theorem wsums_E (a : ByteArray) (b : ByteArray) (n0 : Nat) (K : AV → List HObj → Prop) :
    execN tab (mixE tab conW1 [22, 64, 63, 99] 400) (maskN wsums_live wsums_nils (GoodL Tryd.prog n0 9 K)) (finK tab (fnT Tryd.f9).res K) 400 [.code (fnT Tryd.f9).body] ⟨initEnv (fnT Tryd.f9).n [AV.str a, AV.str b], []⟩ =
    ((Tx a ∧ Tx b) ∧
  (Tx a ∧ Tx b) ∧
    Tx a ∧
      TxL [a, b] ∧
        Tx a ∧
          bif !decide (ratErr a = ratErr a) then K (AV.bool false) [HObj.typed (ETy.one CTy.str) [a, b] false]
          else
            bif !decide (ratErr a = 0) then
              bif bif false then true else bif true then !(negV a).toList == (ByteArray.mk #[]).toList else false then K (AV.bool false) [HObj.typed (ETy.one CTy.str) [a, b] false]
              else
                bif !decide (ratErrs [a, b] = 0) then bif decide (tellE (ratErrs [a, b]) (ratOf a + ratOf b) = ratErrs [a, b]) then bif bif true then decide (tellE (ratErrs [a, b]) (ratOf a - ratOf b) = ratErrs [a, b]) else false then bif bif true then (tellS (ratErrs [a, b]) (ratOf a + ratOf b)).toList == (ByteArray.mk #[]).toList else false then K (AV.bool (bif true then (tellS (ratErrs [a, b]) (ratOf a - ratOf b)).toList == (ByteArray.mk #[]).toList else false)) [HObj.typed (ETy.one CTy.str) [a, b] false] else K (AV.bool false) [HObj.typed (ETy.one CTy.str) [a, b] false] else K (AV.bool false) [HObj.typed (ETy.one CTy.str) [a, b] false] else K (AV.bool false) [HObj.typed (ETy.one CTy.str) [a, b] false]
                else
                  bif decide (0 < (↑[a, b].length : Int)) then bif decide ((↑(ByteArray.size ([a, b].getD 0 ByteArray.empty)) : Int) > 100) then K (AV.bool true) [HObj.typed (ETy.one CTy.str) [a, b] false, HObj.typed (ETy.one CTy.str) [a, b] false, HObj.box [AV.int IntKind.i64 100]] else bif decide (1 < (↑[a, b].length : Int)) then bif decide ((↑(ByteArray.size ([a, b].getD 1 ByteArray.empty)) : Int) > 100) then K (AV.bool true) [HObj.typed (ETy.one CTy.str) [a, b] false, HObj.typed (ETy.one CTy.str) [a, b] false, HObj.box [AV.int IntKind.i64 100]] else bif decide (2 < (↑[a, b].length : Int)) then False else bif decide (tellE (ratErrs [a, b]) (ratOf a + ratOf b) = 0) then bif bif true then decide (tellE (ratErrs [a, b]) (ratOf a - ratOf b) = 0) else false then ∃ x y, a = Sem.ratText x ∧ b = Sem.ratText y ∧ Sz 40000 x ∧ Sz 40000 y ∧ bif bif true then (tellS (ratErrs [a, b]) (ratOf a + ratOf b)).toList == (Sem.ratText (x + y)).toList else false then ∃ x y, a = Sem.ratText x ∧ b = Sem.ratText y ∧ Sz 40000 x ∧ Sz 40000 y ∧ bif bif true then (tellS (ratErrs [a, b]) (ratOf a - ratOf b)).toList == (Sem.ratText (x - y)).toList else false then ∃ q, a = Sem.ratText q ∧ Sz 40000 q ∧ K (AV.bool (bif true then (negV a).toList == (Sem.ratText (-q)).toList else false)) [HObj.typed (ETy.one CTy.str) [a, b] false, HObj.typed (ETy.one CTy.str) [a, b] false, HObj.box [AV.int IntKind.i64 100]] else K (AV.bool false) [HObj.typed (ETy.one CTy.str) [a, b] false, HObj.typed (ETy.one CTy.str) [a, b] false, HObj.box [AV.int IntKind.i64 100]] else K (AV.bool false) [HObj.typed (ETy.one CTy.str) [a, b] false, HObj.typed (ETy.one CTy.str) [a, b] false, HObj.box [AV.int IntKind.i64 100]] else K (AV.bool false) [HObj.typed (ETy.one CTy.str) [a, b] false, HObj.typed (ETy.one CTy.str) [a, b] false, HObj.box [AV.int IntKind.i64 100]] else K (AV.bool false) [HObj.typed (ETy.one CTy.str) [a, b] false, HObj.typed (ETy.one CTy.str) [a, b] false, HObj.box [AV.int IntKind.i64 100]] else bif decide (tellE (ratErrs [a, b]) (ratOf a + ratOf b) = 0) then bif bif true then decide (tellE (ratErrs [a, b]) (ratOf a - ratOf b) = 0) else false then ∃ x y, a = Sem.ratText x ∧ b = Sem.ratText y ∧ Sz 40000 x ∧ Sz 40000 y ∧ bif bif true then (tellS (ratErrs [a, b]) (ratOf a + ratOf b)).toList == (Sem.ratText (x + y)).toList else false then ∃ x y, a = Sem.ratText x ∧ b = Sem.ratText y ∧ Sz 40000 x ∧ Sz 40000 y ∧ bif bif true then (tellS (ratErrs [a, b]) (ratOf a - ratOf b)).toList == (Sem.ratText (x - y)).toList else false then ∃ q, a = Sem.ratText q ∧ Sz 40000 q ∧ K (AV.bool (bif true then (negV a).toList == (Sem.ratText (-q)).toList else false)) [HObj.typed (ETy.one CTy.str) [a, b] false, HObj.typed (ETy.one CTy.str) [a, b] false, HObj.box [AV.int IntKind.i64 100]] else K (AV.bool false) [HObj.typed (ETy.one CTy.str) [a, b] false, HObj.typed (ETy.one CTy.str) [a, b] false, HObj.box [AV.int IntKind.i64 100]] else K (AV.bool false) [HObj.typed (ETy.one CTy.str) [a, b] false, HObj.typed (ETy.one CTy.str) [a, b] false, HObj.box [AV.int IntKind.i64 100]] else K (AV.bool false) [HObj.typed (ETy.one CTy.str) [a, b] false, HObj.typed (ETy.one CTy.str) [a, b] false, HObj.box [AV.int IntKind.i64 100]] else K (AV.bool false) [HObj.typed (ETy.one CTy.str) [a, b] false, HObj.typed (ETy.one CTy.str) [a, b] false, HObj.box [AV.int IntKind.i64 100]]
                  else bif decide (tellE (ratErrs [a, b]) (ratOf a + ratOf b) = 0) then bif bif true then decide (tellE (ratErrs [a, b]) (ratOf a - ratOf b) = 0) else false then ∃ x y, a = Sem.ratText x ∧ b = Sem.ratText y ∧ Sz 40000 x ∧ Sz 40000 y ∧ bif bif true then (tellS (ratErrs [a, b]) (ratOf a + ratOf b)).toList == (Sem.ratText (x + y)).toList else false then ∃ x y, a = Sem.ratText x ∧ b = Sem.ratText y ∧ Sz 40000 x ∧ Sz 40000 y ∧ bif bif true then (tellS (ratErrs [a, b]) (ratOf a - ratOf b)).toList == (Sem.ratText (x - y)).toList else false then ∃ q, a = Sem.ratText q ∧ Sz 40000 q ∧ K (AV.bool (bif true then (negV a).toList == (Sem.ratText (-q)).toList else false)) [HObj.typed (ETy.one CTy.str) [a, b] false, HObj.typed (ETy.one CTy.str) [a, b] false, HObj.box [AV.int IntKind.i64 100]] else K (AV.bool false) [HObj.typed (ETy.one CTy.str) [a, b] false, HObj.typed (ETy.one CTy.str) [a, b] false, HObj.box [AV.int IntKind.i64 100]] else K (AV.bool false) [HObj.typed (ETy.one CTy.str) [a, b] false, HObj.typed (ETy.one CTy.str) [a, b] false, HObj.box [AV.int IntKind.i64 100]] else K (AV.bool false) [HObj.typed (ETy.one CTy.str) [a, b] false, HObj.typed (ETy.one CTy.str) [a, b] false, HObj.box [AV.int IntKind.i64 100]] else K (AV.bool false) [HObj.typed (ETy.one CTy.str) [a, b] false, HObj.typed (ETy.one CTy.str) [a, b] false, HObj.box [AV.int IntKind.i64 100]]
            else
              bif !decide (ratErrs [a, b] = 0) then bif decide (tellE (ratErrs [a, b]) (ratOf a + ratOf b) = ratErrs [a, b]) then bif bif true then decide (tellE (ratErrs [a, b]) (ratOf a - ratOf b) = ratErrs [a, b]) else false then bif bif true then (tellS (ratErrs [a, b]) (ratOf a + ratOf b)).toList == (ByteArray.mk #[]).toList else false then K (AV.bool (bif true then (tellS (ratErrs [a, b]) (ratOf a - ratOf b)).toList == (ByteArray.mk #[]).toList else false)) [HObj.typed (ETy.one CTy.str) [a, b] false] else K (AV.bool false) [HObj.typed (ETy.one CTy.str) [a, b] false] else K (AV.bool false) [HObj.typed (ETy.one CTy.str) [a, b] false] else K (AV.bool false) [HObj.typed (ETy.one CTy.str) [a, b] false]
              else
                bif decide (0 < (↑[a, b].length : Int)) then bif decide ((↑(ByteArray.size ([a, b].getD 0 ByteArray.empty)) : Int) > 100) then K (AV.bool true) [HObj.typed (ETy.one CTy.str) [a, b] false, HObj.typed (ETy.one CTy.str) [a, b] false, HObj.box [AV.int IntKind.i64 100]] else bif decide (1 < (↑[a, b].length : Int)) then bif decide ((↑(ByteArray.size ([a, b].getD 1 ByteArray.empty)) : Int) > 100) then K (AV.bool true) [HObj.typed (ETy.one CTy.str) [a, b] false, HObj.typed (ETy.one CTy.str) [a, b] false, HObj.box [AV.int IntKind.i64 100]] else bif decide (2 < (↑[a, b].length : Int)) then False else bif decide (tellE (ratErrs [a, b]) (ratOf a + ratOf b) = 0) then bif bif true then decide (tellE (ratErrs [a, b]) (ratOf a - ratOf b) = 0) else false then ∃ x y, a = Sem.ratText x ∧ b = Sem.ratText y ∧ Sz 40000 x ∧ Sz 40000 y ∧ bif bif true then (tellS (ratErrs [a, b]) (ratOf a + ratOf b)).toList == (Sem.ratText (x + y)).toList else false then ∃ x y, a = Sem.ratText x ∧ b = Sem.ratText y ∧ Sz 40000 x ∧ Sz 40000 y ∧ bif bif true then (tellS (ratErrs [a, b]) (ratOf a - ratOf b)).toList == (Sem.ratText (x - y)).toList else false then ∃ q, a = Sem.ratText q ∧ Sz 40000 q ∧ K (AV.bool (bif true then (negV a).toList == (Sem.ratText (-q)).toList else false)) [HObj.typed (ETy.one CTy.str) [a, b] false, HObj.typed (ETy.one CTy.str) [a, b] false, HObj.box [AV.int IntKind.i64 100]] else K (AV.bool false) [HObj.typed (ETy.one CTy.str) [a, b] false, HObj.typed (ETy.one CTy.str) [a, b] false, HObj.box [AV.int IntKind.i64 100]] else K (AV.bool false) [HObj.typed (ETy.one CTy.str) [a, b] false, HObj.typed (ETy.one CTy.str) [a, b] false, HObj.box [AV.int IntKind.i64 100]] else K (AV.bool false) [HObj.typed (ETy.one CTy.str) [a, b] false, HObj.typed (ETy.one CTy.str) [a, b] false, HObj.box [AV.int IntKind.i64 100]] else K (AV.bool false) [HObj.typed (ETy.one CTy.str) [a, b] false, HObj.typed (ETy.one CTy.str) [a, b] false, HObj.box [AV.int IntKind.i64 100]] else bif decide (tellE (ratErrs [a, b]) (ratOf a + ratOf b) = 0) then bif bif true then decide (tellE (ratErrs [a, b]) (ratOf a - ratOf b) = 0) else false then ∃ x y, a = Sem.ratText x ∧ b = Sem.ratText y ∧ Sz 40000 x ∧ Sz 40000 y ∧ bif bif true then (tellS (ratErrs [a, b]) (ratOf a + ratOf b)).toList == (Sem.ratText (x + y)).toList else false then ∃ x y, a = Sem.ratText x ∧ b = Sem.ratText y ∧ Sz 40000 x ∧ Sz 40000 y ∧ bif bif true then (tellS (ratErrs [a, b]) (ratOf a - ratOf b)).toList == (Sem.ratText (x - y)).toList else false then ∃ q, a = Sem.ratText q ∧ Sz 40000 q ∧ K (AV.bool (bif true then (negV a).toList == (Sem.ratText (-q)).toList else false)) [HObj.typed (ETy.one CTy.str) [a, b] false, HObj.typed (ETy.one CTy.str) [a, b] false, HObj.box [AV.int IntKind.i64 100]] else K (AV.bool false) [HObj.typed (ETy.one CTy.str) [a, b] false, HObj.typed (ETy.one CTy.str) [a, b] false, HObj.box [AV.int IntKind.i64 100]] else K (AV.bool false) [HObj.typed (ETy.one CTy.str) [a, b] false, HObj.typed (ETy.one CTy.str) [a, b] false, HObj.box [AV.int IntKind.i64 100]] else K (AV.bool false) [HObj.typed (ETy.one CTy.str) [a, b] false, HObj.typed (ETy.one CTy.str) [a, b] false, HObj.box [AV.int IntKind.i64 100]] else K (AV.bool false) [HObj.typed (ETy.one CTy.str) [a, b] false, HObj.typed (ETy.one CTy.str) [a, b] false, HObj.box [AV.int IntKind.i64 100]]
                else bif decide (tellE (ratErrs [a, b]) (ratOf a + ratOf b) = 0) then bif bif true then decide (tellE (ratErrs [a, b]) (ratOf a - ratOf b) = 0) else false then ∃ x y, a = Sem.ratText x ∧ b = Sem.ratText y ∧ Sz 40000 x ∧ Sz 40000 y ∧ bif bif true then (tellS (ratErrs [a, b]) (ratOf a + ratOf b)).toList == (Sem.ratText (x + y)).toList else false then ∃ x y, a = Sem.ratText x ∧ b = Sem.ratText y ∧ Sz 40000 x ∧ Sz 40000 y ∧ bif bif true then (tellS (ratErrs [a, b]) (ratOf a - ratOf b)).toList == (Sem.ratText (x - y)).toList else false then ∃ q, a = Sem.ratText q ∧ Sz 40000 q ∧ K (AV.bool (bif true then (negV a).toList == (Sem.ratText (-q)).toList else false)) [HObj.typed (ETy.one CTy.str) [a, b] false, HObj.typed (ETy.one CTy.str) [a, b] false, HObj.box [AV.int IntKind.i64 100]] else K (AV.bool false) [HObj.typed (ETy.one CTy.str) [a, b] false, HObj.typed (ETy.one CTy.str) [a, b] false, HObj.box [AV.int IntKind.i64 100]] else K (AV.bool false) [HObj.typed (ETy.one CTy.str) [a, b] false, HObj.typed (ETy.one CTy.str) [a, b] false, HObj.box [AV.int IntKind.i64 100]] else K (AV.bool false) [HObj.typed (ETy.one CTy.str) [a, b] false, HObj.typed (ETy.one CTy.str) [a, b] false, HObj.box [AV.int IntKind.i64 100]] else K (AV.bool false) [HObj.typed (ETy.one CTy.str) [a, b] false, HObj.typed (ETy.one CTy.str) [a, b] false, HObj.box [AV.int IntKind.i64 100]]) := by kernel_rfl
def wprods_live : List (Nat × List Nat) := []
def wprods_nils : List (Nat × ETy) := []
set_option maxRecDepth 1000000 in
theorem wprods_E (a : ByteArray) (b : ByteArray) (n0 : Nat) (K : AV → List HObj → Prop) :
    execN tab (mixE tab conW1 [22, 64, 63, 99] 400) (maskN wprods_live wprods_nils (GoodL Tryd.prog n0 10 K)) (finK tab (fnT Tryd.f10).res K) 400 [.code (fnT Tryd.f10).body] ⟨initEnv (fnT Tryd.f10).n [AV.str a, AV.str b], []⟩ =
    ((Tx a ∧ Tx b) ∧
  (Tx a ∧ Tx b) ∧
    TxL [a, b] ∧
      bif !decide (ratErrs [a, b] = 0) then bif decide (tellE (ratErrs [a, b]) (ratOf a * ratOf b) = ratErrs [a, b]) then bif bif true then decide (tellE (divE a b) (ratOf a / ratOf b) = ratErrs [a, b]) else false then bif bif true then (tellS (ratErrs [a, b]) (ratOf a * ratOf b)).toList == (ByteArray.mk #[]).toList else false then K (AV.bool (bif true then (tellS (divE a b) (ratOf a / ratOf b)).toList == (ByteArray.mk #[]).toList else false)) [HObj.typed (ETy.one CTy.str) [a, b] false] else K (AV.bool false) [HObj.typed (ETy.one CTy.str) [a, b] false] else K (AV.bool false) [HObj.typed (ETy.one CTy.str) [a, b] false] else K (AV.bool false) [HObj.typed (ETy.one CTy.str) [a, b] false]
      else
        bif decide (0 < (↑[a, b].length : Int)) then bif decide ((↑(ByteArray.size ([a, b].getD 0 ByteArray.empty)) : Int) > 100) then K (AV.bool true) [HObj.typed (ETy.one CTy.str) [a, b] false, HObj.typed (ETy.one CTy.str) [a, b] false, HObj.box [AV.int IntKind.i64 100]] else bif decide (1 < (↑[a, b].length : Int)) then bif decide ((↑(ByteArray.size ([a, b].getD 1 ByteArray.empty)) : Int) > 100) then K (AV.bool true) [HObj.typed (ETy.one CTy.str) [a, b] false, HObj.typed (ETy.one CTy.str) [a, b] false, HObj.box [AV.int IntKind.i64 100]] else bif decide (2 < (↑[a, b].length : Int)) then False else bif !decide (tellE (ratErrs [a, b]) (ratOf a * ratOf b) = 0) then K (AV.bool false) [HObj.typed (ETy.one CTy.str) [a, b] false, HObj.typed (ETy.one CTy.str) [a, b] false, HObj.box [AV.int IntKind.i64 100]] else ∃ x y, a = Sem.ratText x ∧ b = Sem.ratText y ∧ Sz 40000 x ∧ Sz 40000 y ∧ bif bif false then true else !(tellS (ratErrs [a, b]) (ratOf a * ratOf b)).toList == (Sem.ratText (x * y)).toList then K (AV.bool false) [HObj.typed (ETy.one CTy.str) [a, b] false, HObj.typed (ETy.one CTy.str) [a, b] false, HObj.box [AV.int IntKind.i64 100]] else bif b.toList == (ByteArray.mk #[48]).toList then bif decide (tellE (divE a b) (ratOf a / ratOf b) = 18) then K (AV.bool (bif true then (tellS (divE a b) (ratOf a / ratOf b)).toList == (ByteArray.mk #[]).toList else false)) [HObj.typed (ETy.one CTy.str) [a, b] false, HObj.typed (ETy.one CTy.str) [a, b] false, HObj.box [AV.int IntKind.i64 100]] else K (AV.bool false) [HObj.typed (ETy.one CTy.str) [a, b] false, HObj.typed (ETy.one CTy.str) [a, b] false, HObj.box [AV.int IntKind.i64 100]] else bif decide (tellE (divE a b) (ratOf a / ratOf b) = 0) then ∃ x y, a = Sem.ratText x ∧ b = Sem.ratText y ∧ Sz 40000 x ∧ Sz 40000 y ∧ y ≠ 0 ∧ K (AV.bool (bif true then (tellS (divE a b) (ratOf a / ratOf b)).toList == (Sem.ratText (x / y)).toList else false)) [HObj.typed (ETy.one CTy.str) [a, b] false, HObj.typed (ETy.one CTy.str) [a, b] false, HObj.box [AV.int IntKind.i64 100]] else K (AV.bool false) [HObj.typed (ETy.one CTy.str) [a, b] false, HObj.typed (ETy.one CTy.str) [a, b] false, HObj.box [AV.int IntKind.i64 100]] else bif !decide (tellE (ratErrs [a, b]) (ratOf a * ratOf b) = 0) then K (AV.bool false) [HObj.typed (ETy.one CTy.str) [a, b] false, HObj.typed (ETy.one CTy.str) [a, b] false, HObj.box [AV.int IntKind.i64 100]] else ∃ x y, a = Sem.ratText x ∧ b = Sem.ratText y ∧ Sz 40000 x ∧ Sz 40000 y ∧ bif bif false then true else !(tellS (ratErrs [a, b]) (ratOf a * ratOf b)).toList == (Sem.ratText (x * y)).toList then K (AV.bool false) [HObj.typed (ETy.one CTy.str) [a, b] false, HObj.typed (ETy.one CTy.str) [a, b] false, HObj.box [AV.int IntKind.i64 100]] else bif b.toList == (ByteArray.mk #[48]).toList then bif decide (tellE (divE a b) (ratOf a / ratOf b) = 18) then K (AV.bool (bif true then (tellS (divE a b) (ratOf a / ratOf b)).toList == (ByteArray.mk #[]).toList else false)) [HObj.typed (ETy.one CTy.str) [a, b] false, HObj.typed (ETy.one CTy.str) [a, b] false, HObj.box [AV.int IntKind.i64 100]] else K (AV.bool false) [HObj.typed (ETy.one CTy.str) [a, b] false, HObj.typed (ETy.one CTy.str) [a, b] false, HObj.box [AV.int IntKind.i64 100]] else bif decide (tellE (divE a b) (ratOf a / ratOf b) = 0) then ∃ x y, a = Sem.ratText x ∧ b = Sem.ratText y ∧ Sz 40000 x ∧ Sz 40000 y ∧ y ≠ 0 ∧ K (AV.bool (bif true then (tellS (divE a b) (ratOf a / ratOf b)).toList == (Sem.ratText (x / y)).toList else false)) [HObj.typed (ETy.one CTy.str) [a, b] false, HObj.typed (ETy.one CTy.str) [a, b] false, HObj.box [AV.int IntKind.i64 100]] else K (AV.bool false) [HObj.typed (ETy.one CTy.str) [a, b] false, HObj.typed (ETy.one CTy.str) [a, b] false, HObj.box [AV.int IntKind.i64 100]]
        else bif !decide (tellE (ratErrs [a, b]) (ratOf a * ratOf b) = 0) then K (AV.bool false) [HObj.typed (ETy.one CTy.str) [a, b] false, HObj.typed (ETy.one CTy.str) [a, b] false, HObj.box [AV.int IntKind.i64 100]] else ∃ x y, a = Sem.ratText x ∧ b = Sem.ratText y ∧ Sz 40000 x ∧ Sz 40000 y ∧ bif bif false then true else !(tellS (ratErrs [a, b]) (ratOf a * ratOf b)).toList == (Sem.ratText (x * y)).toList then K (AV.bool false) [HObj.typed (ETy.one CTy.str) [a, b] false, HObj.typed (ETy.one CTy.str) [a, b] false, HObj.box [AV.int IntKind.i64 100]] else bif b.toList == (ByteArray.mk #[48]).toList then bif decide (tellE (divE a b) (ratOf a / ratOf b) = 18) then K (AV.bool (bif true then (tellS (divE a b) (ratOf a / ratOf b)).toList == (ByteArray.mk #[]).toList else false)) [HObj.typed (ETy.one CTy.str) [a, b] false, HObj.typed (ETy.one CTy.str) [a, b] false, HObj.box [AV.int IntKind.i64 100]] else K (AV.bool false) [HObj.typed (ETy.one CTy.str) [a, b] false, HObj.typed (ETy.one CTy.str) [a, b] false, HObj.box [AV.int IntKind.i64 100]] else bif decide (tellE (divE a b) (ratOf a / ratOf b) = 0) then ∃ x y, a = Sem.ratText x ∧ b = Sem.ratText y ∧ Sz 40000 x ∧ Sz 40000 y ∧ y ≠ 0 ∧ K (AV.bool (bif true then (tellS (divE a b) (ratOf a / ratOf b)).toList == (Sem.ratText (x / y)).toList else false)) [HObj.typed (ETy.one CTy.str) [a, b] false, HObj.typed (ETy.one CTy.str) [a, b] false, HObj.box [AV.int IntKind.i64 100]] else K (AV.bool false) [HObj.typed (ETy.one CTy.str) [a, b] false, HObj.typed (ETy.one CTy.str) [a, b] false, HObj.box [AV.int IntKind.i64 100]]) := by kernel_rfl
def wcmps_live : List (Nat × List Nat) := []
def wcmps_nils : List (Nat × ETy) := []
set_option maxRecDepth 1000000 in
theorem wcmps_E (a : ByteArray) (b : ByteArray) (n0 : Nat) (K : AV → List HObj → Prop) :
    execN tab (mixE tab conW1 [22, 64, 63, 99, 51, 97, 96, 108] 400) (maskN wcmps_live wcmps_nils (GoodL Tryd.prog n0 11 K)) (finK tab (fnT Tryd.f11).res K) 400 [.code (fnT Tryd.f11).body] ⟨initEnv (fnT Tryd.f11).n [AV.str a, AV.str b], []⟩ =
    ((Tx a ∧ Tx b) ∧
  Tx a ∧
    Tx a ∧
      Tx a ∧
        bif !decide (ratErr a = 0) then bif decide (ratErrs [a, b] = ratErr a) then bif bif true then decide (ratErr a = ratErr a) else false then bif bif true then decide (tellE (ratErr a) (floorQ a) = ratErr a) else false then bif bif true then decide (cmpV a b = 0) else false then bif bif true then decide (signV a = 0) else false then K (AV.bool (bif true then (tellS (ratErr a) (floorQ a)).toList == (ByteArray.mk #[]).toList else false)) [] else K (AV.bool false) [] else K (AV.bool false) [] else K (AV.bool false) [] else K (AV.bool false) [] else K (AV.bool false) []
        else
          Tx b ∧
            bif !decide (ratErr b = 0) then bif decide (ratErrs [a, b] = ratErr b) then bif bif true then decide (cmpV a b = 0) else false then K (AV.bool (bif true then decide (ratErr a = 0) else false)) [] else K (AV.bool false) [] else K (AV.bool false) []
            else
              bif decide (0 < (↑[a, b].length : Int)) then
                bif decide ((↑(ByteArray.size ([a, b].getD 0 ByteArray.empty)) : Int) > 100) then K (AV.bool true) [HObj.typed (ETy.one CTy.str) [a, b] false, HObj.box [AV.int IntKind.i64 100]]
                else
                  bif decide (1 < (↑[a, b].length : Int)) then
                    bif decide ((↑(ByteArray.size ([a, b].getD 1 ByteArray.empty)) : Int) > 100) then K (AV.bool true) [HObj.typed (ETy.one CTy.str) [a, b] false, HObj.box [AV.int IntKind.i64 100]]
                    else
                      bif decide (2 < (↑[a, b].length : Int)) then False
                      else
                        bif decide (0 < (↑[ratErrs [a, b], ratErr a, tellE (ratErr a) (floorQ a)].length : Int)) then
                          bif !decide ([ratErrs [a, b], ratErr a, tellE (ratErr a) (floorQ a)].getD 0 0 = 0) then K (AV.bool false) [HObj.typed (ETy.one CTy.str) [a, b] false, HObj.box [AV.int IntKind.i64 100], HObj.typed (ETy.one (CTy.int IntKind.i64)) [ratErrs [a, b], ratErr a, tellE (ratErr a) (floorQ a)] false]
                          else bif decide (1 < (↑[ratErrs [a, b], ratErr a, tellE (ratErr a) (floorQ a)].length : Int)) then bif !decide ([ratErrs [a, b], ratErr a, tellE (ratErr a) (floorQ a)].getD 1 0 = 0) then K (AV.bool false) [HObj.typed (ETy.one CTy.str) [a, b] false, HObj.box [AV.int IntKind.i64 100], HObj.typed (ETy.one (CTy.int IntKind.i64)) [ratErrs [a, b], ratErr a, tellE (ratErr a) (floorQ a)] false] else bif decide (2 < (↑[ratErrs [a, b], ratErr a, tellE (ratErr a) (floorQ a)].length : Int)) then bif !decide ([ratErrs [a, b], ratErr a, tellE (ratErr a) (floorQ a)].getD 2 0 = 0) then K (AV.bool false) [HObj.typed (ETy.one CTy.str) [a, b] false, HObj.box [AV.int IntKind.i64 100], HObj.typed (ETy.one (CTy.int IntKind.i64)) [ratErrs [a, b], ratErr a, tellE (ratErr a) (floorQ a)] false] else bif decide (3 < (↑[ratErrs [a, b], ratErr a, tellE (ratErr a) (floorQ a)].length : Int)) then False else ∃ x y, a = Sem.ratText x ∧ b = Sem.ratText y ∧ Sz 40000 x ∧ Sz 40000 y ∧ bif bif true then decide (cmpV a b = Sem.sgn (x - y)) else false then ∃ q, a = Sem.ratText q ∧ Sz 90000 q ∧ bif bif true then decide (signV a = Sem.sgn q) else false then ∃ q, a = Sem.ratText q ∧ Sz 40000 q ∧ K (AV.bool (bif true then (tellS (ratErr a) (floorQ a)).toList == (Sem.ratText (↑q.floor : Rat)).toList else false)) [HObj.typed (ETy.one CTy.str) [a, b] false, HObj.box [AV.int IntKind.i64 100], HObj.typed (ETy.one (CTy.int IntKind.i64)) [ratErrs [a, b], ratErr a, tellE (ratErr a) (floorQ a)] false] else K (AV.bool false) [HObj.typed (ETy.one CTy.str) [a, b] false, HObj.box [AV.int IntKind.i64 100], HObj.typed (ETy.one (CTy.int IntKind.i64)) [ratErrs [a, b], ratErr a, tellE (ratErr a) (floorQ a)] false] else K (AV.bool false) [HObj.typed (ETy.one CTy.str) [a, b] false, HObj.box [AV.int IntKind.i64 100], HObj.typed (ETy.one (CTy.int IntKind.i64)) [ratErrs [a, b], ratErr a, tellE (ratErr a) (floorQ a)] false] else ∃ x y, a = Sem.ratText x ∧ b = Sem.ratText y ∧ Sz 40000 x ∧ Sz 40000 y ∧ bif bif true then decide (cmpV a b = Sem.sgn (x - y)) else false then ∃ q, a = Sem.ratText q ∧ Sz 90000 q ∧ bif bif true then decide (signV a = Sem.sgn q) else false then ∃ q, a = Sem.ratText q ∧ Sz 40000 q ∧ K (AV.bool (bif true then (tellS (ratErr a) (floorQ a)).toList == (Sem.ratText (↑q.floor : Rat)).toList else false)) [HObj.typed (ETy.one CTy.str) [a, b] false, HObj.box [AV.int IntKind.i64 100], HObj.typed (ETy.one (CTy.int IntKind.i64)) [ratErrs [a, b], ratErr a, tellE (ratErr a) (floorQ a)] false] else K (AV.bool false) [HObj.typed (ETy.one CTy.str) [a, b] false, HObj.box [AV.int IntKind.i64 100], HObj.typed (ETy.one (CTy.int IntKind.i64)) [ratErrs [a, b], ratErr a, tellE (ratErr a) (floorQ a)] false] else K (AV.bool false) [HObj.typed (ETy.one CTy.str) [a, b] false, HObj.box [AV.int IntKind.i64 100], HObj.typed (ETy.one (CTy.int IntKind.i64)) [ratErrs [a, b], ratErr a, tellE (ratErr a) (floorQ a)] false] else ∃ x y, a = Sem.ratText x ∧ b = Sem.ratText y ∧ Sz 40000 x ∧ Sz 40000 y ∧ bif bif true then decide (cmpV a b = Sem.sgn (x - y)) else false then ∃ q, a = Sem.ratText q ∧ Sz 90000 q ∧ bif bif true then decide (signV a = Sem.sgn q) else false then ∃ q, a = Sem.ratText q ∧ Sz 40000 q ∧ K (AV.bool (bif true then (tellS (ratErr a) (floorQ a)).toList == (Sem.ratText (↑q.floor : Rat)).toList else false)) [HObj.typed (ETy.one CTy.str) [a, b] false, HObj.box [AV.int IntKind.i64 100], HObj.typed (ETy.one (CTy.int IntKind.i64)) [ratErrs [a, b], ratErr a, tellE (ratErr a) (floorQ a)] false] else K (AV.bool false) [HObj.typed (ETy.one CTy.str) [a, b] false, HObj.box [AV.int IntKind.i64 100], HObj.typed (ETy.one (CTy.int IntKind.i64)) [ratErrs [a, b], ratErr a, tellE (ratErr a) (floorQ a)] false] else K (AV.bool false) [HObj.typed (ETy.one CTy.str) [a, b] false, HObj.box [AV.int IntKind.i64 100], HObj.typed (ETy.one (CTy.int IntKind.i64)) [ratErrs [a, b], ratErr a, tellE (ratErr a) (floorQ a)] false]
                        else ∃ x y, a = Sem.ratText x ∧ b = Sem.ratText y ∧ Sz 40000 x ∧ Sz 40000 y ∧ bif bif true then decide (cmpV a b = Sem.sgn (x - y)) else false then ∃ q, a = Sem.ratText q ∧ Sz 90000 q ∧ bif bif true then decide (signV a = Sem.sgn q) else false then ∃ q, a = Sem.ratText q ∧ Sz 40000 q ∧ K (AV.bool (bif true then (tellS (ratErr a) (floorQ a)).toList == (Sem.ratText (↑q.floor : Rat)).toList else false)) [HObj.typed (ETy.one CTy.str) [a, b] false, HObj.box [AV.int IntKind.i64 100], HObj.typed (ETy.one (CTy.int IntKind.i64)) [ratErrs [a, b], ratErr a, tellE (ratErr a) (floorQ a)] false] else K (AV.bool false) [HObj.typed (ETy.one CTy.str) [a, b] false, HObj.box [AV.int IntKind.i64 100], HObj.typed (ETy.one (CTy.int IntKind.i64)) [ratErrs [a, b], ratErr a, tellE (ratErr a) (floorQ a)] false] else K (AV.bool false) [HObj.typed (ETy.one CTy.str) [a, b] false, HObj.box [AV.int IntKind.i64 100], HObj.typed (ETy.one (CTy.int IntKind.i64)) [ratErrs [a, b], ratErr a, tellE (ratErr a) (floorQ a)] false]
                  else
                    bif decide (0 < (↑[ratErrs [a, b], ratErr a, tellE (ratErr a) (floorQ a)].length : Int)) then
                      bif !decide ([ratErrs [a, b], ratErr a, tellE (ratErr a) (floorQ a)].getD 0 0 = 0) then K (AV.bool false) [HObj.typed (ETy.one CTy.str) [a, b] false, HObj.box [AV.int IntKind.i64 100], HObj.typed (ETy.one (CTy.int IntKind.i64)) [ratErrs [a, b], ratErr a, tellE (ratErr a) (floorQ a)] false]
                      else bif decide (1 < (↑[ratErrs [a, b], ratErr a, tellE (ratErr a) (floorQ a)].length : Int)) then bif !decide ([ratErrs [a, b], ratErr a, tellE (ratErr a) (floorQ a)].getD 1 0 = 0) then K (AV.bool false) [HObj.typed (ETy.one CTy.str) [a, b] false, HObj.box [AV.int IntKind.i64 100], HObj.typed (ETy.one (CTy.int IntKind.i64)) [ratErrs [a, b], ratErr a, tellE (ratErr a) (floorQ a)] false] else bif decide (2 < (↑[ratErrs [a, b], ratErr a, tellE (ratErr a) (floorQ a)].length : Int)) then bif !decide ([ratErrs [a, b], ratErr a, tellE (ratErr a) (floorQ a)].getD 2 0 = 0) then K (AV.bool false) [HObj.typed (ETy.one CTy.str) [a, b] false, HObj.box [AV.int IntKind.i64 100], HObj.typed (ETy.one (CTy.int IntKind.i64)) [ratErrs [a, b], ratErr a, tellE (ratErr a) (floorQ a)] false] else bif decide (3 < (↑[ratErrs [a, b], ratErr a, tellE (ratErr a) (floorQ a)].length : Int)) then False else ∃ x y, a = Sem.ratText x ∧ b = Sem.ratText y ∧ Sz 40000 x ∧ Sz 40000 y ∧ bif bif true then decide (cmpV a b = Sem.sgn (x - y)) else false then ∃ q, a = Sem.ratText q ∧ Sz 90000 q ∧ bif bif true then decide (signV a = Sem.sgn q) else false then ∃ q, a = Sem.ratText q ∧ Sz 40000 q ∧ K (AV.bool (bif true then (tellS (ratErr a) (floorQ a)).toList == (Sem.ratText (↑q.floor : Rat)).toList else false)) [HObj.typed (ETy.one CTy.str) [a, b] false, HObj.box [AV.int IntKind.i64 100], HObj.typed (ETy.one (CTy.int IntKind.i64)) [ratErrs [a, b], ratErr a, tellE (ratErr a) (floorQ a)] false] else K (AV.bool false) [HObj.typed (ETy.one CTy.str) [a, b] false, HObj.box [AV.int IntKind.i64 100], HObj.typed (ETy.one (CTy.int IntKind.i64)) [ratErrs [a, b], ratErr a, tellE (ratErr a) (floorQ a)] false] else K (AV.bool false) [HObj.typed (ETy.one CTy.str) [a, b] false, HObj.box [AV.int IntKind.i64 100], HObj.typed (ETy.one (CTy.int IntKind.i64)) [ratErrs [a, b], ratErr a, tellE (ratErr a) (floorQ a)] false] else ∃ x y, a = Sem.ratText x ∧ b = Sem.ratText y ∧ Sz 40000 x ∧ Sz 40000 y ∧ bif bif true then decide (cmpV a b = Sem.sgn (x - y)) else false then ∃ q, a = Sem.ratText q ∧ Sz 90000 q ∧ bif bif true then decide (signV a = Sem.sgn q) else false then ∃ q, a = Sem.ratText q ∧ Sz 40000 q ∧ K (AV.bool (bif true then (tellS (ratErr a) (floorQ a)).toList == (Sem.ratText (↑q.floor : Rat)).toList else false)) [HObj.typed (ETy.one CTy.str) [a, b] false, HObj.box [AV.int IntKind.i64 100], HObj.typed (ETy.one (CTy.int IntKind.i64)) [ratErrs [a, b], ratErr a, tellE (ratErr a) (floorQ a)] false] else K (AV.bool false) [HObj.typed (ETy.one CTy.str) [a, b] false, HObj.box [AV.int IntKind.i64 100], HObj.typed (ETy.one (CTy.int IntKind.i64)) [ratErrs [a, b], ratErr a, tellE (ratErr a) (floorQ a)] false] else K (AV.bool false) [HObj.typed (ETy.one CTy.str) [a, b] false, HObj.box [AV.int IntKind.i64 100], HObj.typed (ETy.one (CTy.int IntKind.i64)) [ratErrs [a, b], ratErr a, tellE (ratErr a) (floorQ a)] false] else ∃ x y, a = Sem.ratText x ∧ b = Sem.ratText y ∧ Sz 40000 x ∧ Sz 40000 y ∧ bif bif true then decide (cmpV a b = Sem.sgn (x - y)) else false then ∃ q, a = Sem.ratText q ∧ Sz 90000 q ∧ bif bif true then decide (signV a = Sem.sgn q) else false then ∃ q, a = Sem.ratText q ∧ Sz 40000 q ∧ K (AV.bool (bif true then (tellS (ratErr a) (floorQ a)).toList == (Sem.ratText (↑q.floor : Rat)).toList else false)) [HObj.typed (ETy.one CTy.str) [a, b] false, HObj.box [AV.int IntKind.i64 100], HObj.typed (ETy.one (CTy.int IntKind.i64)) [ratErrs [a, b], ratErr a, tellE (ratErr a) (floorQ a)] false] else K (AV.bool false) [HObj.typed (ETy.one CTy.str) [a, b] false, HObj.box [AV.int IntKind.i64 100], HObj.typed (ETy.one (CTy.int IntKind.i64)) [ratErrs [a, b], ratErr a, tellE (ratErr a) (floorQ a)] false] else K (AV.bool false) [HObj.typed (ETy.one CTy.str) [a, b] false, HObj.box [AV.int IntKind.i64 100], HObj.typed (ETy.one (CTy.int IntKind.i64)) [ratErrs [a, b], ratErr a, tellE (ratErr a) (floorQ a)] false]
                    else ∃ x y, a = Sem.ratText x ∧ b = Sem.ratText y ∧ Sz 40000 x ∧ Sz 40000 y ∧ bif bif true then decide (cmpV a b = Sem.sgn (x - y)) else false then ∃ q, a = Sem.ratText q ∧ Sz 90000 q ∧ bif bif true then decide (signV a = Sem.sgn q) else false then ∃ q, a = Sem.ratText q ∧ Sz 40000 q ∧ K (AV.bool (bif true then (tellS (ratErr a) (floorQ a)).toList == (Sem.ratText (↑q.floor : Rat)).toList else false)) [HObj.typed (ETy.one CTy.str) [a, b] false, HObj.box [AV.int IntKind.i64 100], HObj.typed (ETy.one (CTy.int IntKind.i64)) [ratErrs [a, b], ratErr a, tellE (ratErr a) (floorQ a)] false] else K (AV.bool false) [HObj.typed (ETy.one CTy.str) [a, b] false, HObj.box [AV.int IntKind.i64 100], HObj.typed (ETy.one (CTy.int IntKind.i64)) [ratErrs [a, b], ratErr a, tellE (ratErr a) (floorQ a)] false] else K (AV.bool false) [HObj.typed (ETy.one CTy.str) [a, b] false, HObj.box [AV.int IntKind.i64 100], HObj.typed (ETy.one (CTy.int IntKind.i64)) [ratErrs [a, b], ratErr a, tellE (ratErr a) (floorQ a)] false]
              else
                bif decide (0 < (↑[ratErrs [a, b], ratErr a, tellE (ratErr a) (floorQ a)].length : Int)) then
                  bif !decide ([ratErrs [a, b], ratErr a, tellE (ratErr a) (floorQ a)].getD 0 0 = 0) then K (AV.bool false) [HObj.typed (ETy.one CTy.str) [a, b] false, HObj.box [AV.int IntKind.i64 100], HObj.typed (ETy.one (CTy.int IntKind.i64)) [ratErrs [a, b], ratErr a, tellE (ratErr a) (floorQ a)] false]
                  else bif decide (1 < (↑[ratErrs [a, b], ratErr a, tellE (ratErr a) (floorQ a)].length : Int)) then bif !decide ([ratErrs [a, b], ratErr a, tellE (ratErr a) (floorQ a)].getD 1 0 = 0) then K (AV.bool false) [HObj.typed (ETy.one CTy.str) [a, b] false, HObj.box [AV.int IntKind.i64 100], HObj.typed (ETy.one (CTy.int IntKind.i64)) [ratErrs [a, b], ratErr a, tellE (ratErr a) (floorQ a)] false] else bif decide (2 < (↑[ratErrs [a, b], ratErr a, tellE (ratErr a) (floorQ a)].length : Int)) then bif !decide ([ratErrs [a, b], ratErr a, tellE (ratErr a) (floorQ a)].getD 2 0 = 0) then K (AV.bool false) [HObj.typed (ETy.one CTy.str) [a, b] false, HObj.box [AV.int IntKind.i64 100], HObj.typed (ETy.one (CTy.int IntKind.i64)) [ratErrs [a, b], ratErr a, tellE (ratErr a) (floorQ a)] false] else bif decide (3 < (↑[ratErrs [a, b], ratErr a, tellE (ratErr a) (floorQ a)].length : Int)) then False else ∃ x y, a = Sem.ratText x ∧ b = Sem.ratText y ∧ Sz 40000 x ∧ Sz 40000 y ∧ bif bif true then decide (cmpV a b = Sem.sgn (x - y)) else false then ∃ q, a = Sem.ratText q ∧ Sz 90000 q ∧ bif bif true then decide (signV a = Sem.sgn q) else false then ∃ q, a = Sem.ratText q ∧ Sz 40000 q ∧ K (AV.bool (bif true then (tellS (ratErr a) (floorQ a)).toList == (Sem.ratText (↑q.floor : Rat)).toList else false)) [HObj.typed (ETy.one CTy.str) [a, b] false, HObj.box [AV.int IntKind.i64 100], HObj.typed (ETy.one (CTy.int IntKind.i64)) [ratErrs [a, b], ratErr a, tellE (ratErr a) (floorQ a)] false] else K (AV.bool false) [HObj.typed (ETy.one CTy.str) [a, b] false, HObj.box [AV.int IntKind.i64 100], HObj.typed (ETy.one (CTy.int IntKind.i64)) [ratErrs [a, b], ratErr a, tellE (ratErr a) (floorQ a)] false] else K (AV.bool false) [HObj.typed (ETy.one CTy.str) [a, b] false, HObj.box [AV.int IntKind.i64 100], HObj.typed (ETy.one (CTy.int IntKind.i64)) [ratErrs [a, b], ratErr a, tellE (ratErr a) (floorQ a)] false] else ∃ x y, a = Sem.ratText x ∧ b = Sem.ratText y ∧ Sz 40000 x ∧ Sz 40000 y ∧ bif bif true then decide (cmpV a b = Sem.sgn (x - y)) else false then ∃ q, a = Sem.ratText q ∧ Sz 90000 q ∧ bif bif true then decide (signV a = Sem.sgn q) else false then ∃ q, a = Sem.ratText q ∧ Sz 40000 q ∧ K (AV.bool (bif true then (tellS (ratErr a) (floorQ a)).toList == (Sem.ratText (↑q.floor : Rat)).toList else false)) [HObj.typed (ETy.one CTy.str) [a, b] false, HObj.box [AV.int IntKind.i64 100], HObj.typed (ETy.one (CTy.int IntKind.i64)) [ratErrs [a, b], ratErr a, tellE (ratErr a) (floorQ a)] false] else K (AV.bool false) [HObj.typed (ETy.one CTy.str) [a, b] false, HObj.box [AV.int IntKind.i64 100], HObj.typed (ETy.one (CTy.int IntKind.i64)) [ratErrs [a, b], ratErr a, tellE (ratErr a) (floorQ a)] false] else K (AV.bool false) [HObj.typed (ETy.one CTy.str) [a, b] false, HObj.box [AV.int IntKind.i64 100], HObj.typed (ETy.one (CTy.int IntKind.i64)) [ratErrs [a, b], ratErr a, tellE (ratErr a) (floorQ a)] false] else ∃ x y, a = Sem.ratText x ∧ b = Sem.ratText y ∧ Sz 40000 x ∧ Sz 40000 y ∧ bif bif true then decide (cmpV a b = Sem.sgn (x - y)) else false then ∃ q, a = Sem.ratText q ∧ Sz 90000 q ∧ bif bif true then decide (signV a = Sem.sgn q) else false then ∃ q, a = Sem.ratText q ∧ Sz 40000 q ∧ K (AV.bool (bif true then (tellS (ratErr a) (floorQ a)).toList == (Sem.ratText (↑q.floor : Rat)).toList else false)) [HObj.typed (ETy.one CTy.str) [a, b] false, HObj.box [AV.int IntKind.i64 100], HObj.typed (ETy.one (CTy.int IntKind.i64)) [ratErrs [a, b], ratErr a, tellE (ratErr a) (floorQ a)] false] else K (AV.bool false) [HObj.typed (ETy.one CTy.str) [a, b] false, HObj.box [AV.int IntKind.i64 100], HObj.typed (ETy.one (CTy.int IntKind.i64)) [ratErrs [a, b], ratErr a, tellE (ratErr a) (floorQ a)] false] else K (AV.bool false) [HObj.typed (ETy.one CTy.str) [a, b] false, HObj.box [AV.int IntKind.i64 100], HObj.typed (ETy.one (CTy.int IntKind.i64)) [ratErrs [a, b], ratErr a, tellE (ratErr a) (floorQ a)] false]
                else ∃ x y, a = Sem.ratText x ∧ b = Sem.ratText y ∧ Sz 40000 x ∧ Sz 40000 y ∧ bif bif true then decide (cmpV a b = Sem.sgn (x - y)) else false then ∃ q, a = Sem.ratText q ∧ Sz 90000 q ∧ bif bif true then decide (signV a = Sem.sgn q) else false then ∃ q, a = Sem.ratText q ∧ Sz 40000 q ∧ K (AV.bool (bif true then (tellS (ratErr a) (floorQ a)).toList == (Sem.ratText (↑q.floor : Rat)).toList else false)) [HObj.typed (ETy.one CTy.str) [a, b] false, HObj.box [AV.int IntKind.i64 100], HObj.typed (ETy.one (CTy.int IntKind.i64)) [ratErrs [a, b], ratErr a, tellE (ratErr a) (floorQ a)] false] else K (AV.bool false) [HObj.typed (ETy.one CTy.str) [a, b] false, HObj.box [AV.int IntKind.i64 100], HObj.typed (ETy.one (CTy.int IntKind.i64)) [ratErrs [a, b], ratErr a, tellE (ratErr a) (floorQ a)] false] else K (AV.bool false) [HObj.typed (ETy.one CTy.str) [a, b] false, HObj.box [AV.int IntKind.i64 100], HObj.typed (ETy.one (CTy.int IntKind.i64)) [ratErrs [a, b], ratErr a, tellE (ratErr a) (floorQ a)] false]) := by kernel_rfl
end Go.Proofs.YtolikobhjmnedaaDoor.Mach
end
section
/- The laws of package rat. -/
set_option linter.unusedVariables false
set_option linter.unusedSimpArgs false
namespace Go.Proofs.YtolikobhjmnedaaDoor.Lib
open Go Go.Proofs.YtolikobhjmnedaaDoor.Mach Go.Proofs.YtolikobhjmnedaaDoorW.PrintWords Go.Proofs.YtolikobhjmnedaaDoor.Sem Go.Proofs.YtolikobhjmnedaaDoor.Pure
theorem szk_add {k : Nat} {x y : Rat} (sx : Sz k x) (sy : Sz k y) : Sz (2 * k + 1) (x + y) := by
  have e1 := sz_n sx; have e2 := sz_d sx; have e3 := sz_n sy; have e4 := sz_d sy
  have m1 : dg (x.num.natAbs * y.den) ≤ 2 * k := Nat.le_trans (dg_mul _ _) (by omega)
  have m2 : dg (y.num.natAbs * x.den) ≤ 2 * k := Nat.le_trans (dg_mul _ _) (by omega)
  have m3 : dg (x.den * y.den) ≤ 2 * k := Nat.le_trans (dg_mul _ _) (by omega)
  have px := den_pos x
  have py := den_pos y
  have hsum : x + y = mkq (decide (x.num < 0)) x.num.natAbs x.den + mkq (decide (y.num < 0)) y.num.natAbs y.den := by rw [mkq_self, mkq_self]
  rw [mkq_add _ _ _ _ _ _ px py] at hsum
  have hD : ∀ b u, szD (mkq b u (x.den * y.den)) ≤ 2 * k + 1 := fun b u => Nat.le_trans (szD_mkq (Nat.mul_pos px py)) (by omega)
  have hN : ∀ b u, dg u ≤ 2 * k + 1 → szN (mkq b u (x.den * y.den)) ≤ 2 * k + 1 := fun b u h => Nat.le_trans (szN_mkq (Nat.mul_pos px py)) h
  have a1 := dg_add m1 m2
  have a2 := dg_mono (Nat.sub_le (x.num.natAbs * y.den) (y.num.natAbs * x.den))
  have a3 := dg_mono (Nat.sub_le (y.num.natAbs * x.den) (x.num.natAbs * y.den))
  rw [hsum]
  split
  · exact ⟨hN _ _ (by omega), hD _ _⟩
  · split
    · exact ⟨hN _ _ (by omega), hD _ _⟩
    · exact ⟨hN _ _ (by omega), hD _ _⟩
theorem szk_sub {k : Nat} {x y : Rat} (sx : Sz k x) (sy : Sz k y) : Sz (2 * k + 1) (x - y) := by
  rw [Rat.sub_eq_add_neg]
  exact szk_add sx (sz_neg sy)
theorem szk_mul {k : Nat} {x y : Rat} (sx : Sz k x) (sy : Sz k y) : Sz (2 * k) (x * y) := by
  have e1 := sz_n sx; have e2 := sz_d sx; have e3 := sz_n sy; have e4 := sz_d sy
  have hprod : x * y = mkq (decide (x.num < 0)) x.num.natAbs x.den * mkq (decide (y.num < 0)) y.num.natAbs y.den := by rw [mkq_self, mkq_self]
  rw [mkq_mul] at hprod
  rw [hprod]
  have hp := Nat.mul_pos (den_pos x) (den_pos y)
  exact ⟨Nat.le_trans (szN_mkq hp) (Nat.le_trans (dg_mul _ _) (by omega)), Nat.le_trans (szD_mkq hp) (Nat.le_trans (dg_mul _ _) (by omega))⟩
theorem szk_quo {k : Nat} {x y : Rat} (sx : Sz k x) (sy : Sz k y) (h1 : y ≠ 0) : Sz (2 * k) (x / y) := by
  have e1 := sz_n sx; have e2 := sz_d sx; have e3 := sz_n sy; have e4 := sz_d sy
  have hy : 0 < y.num.natAbs := by
    have : y.num ≠ 0 := fun h => h1 (Rat.num_eq_zero.1 h)
    omega
  have hquo : x / y = mkq (decide (x.num < 0)) x.num.natAbs x.den / mkq (decide (y.num < 0)) y.num.natAbs y.den := by rw [mkq_self, mkq_self]
  rw [mkq_quo _ _ _ _ _ _ (den_pos x) hy (den_pos y)] at hquo
  rw [hquo]
  have hp := Nat.mul_pos (den_pos x) hy
  exact ⟨Nat.le_trans (szN_mkq hp) (Nat.le_trans (dg_mul _ _) (by omega)), Nat.le_trans (szD_mkq hp) (Nat.le_trans (dg_mul _ _) (by omega))⟩
theorem szk_floor {k : Nat} {q : Rat} (hk : 1 ≤ k) (sq : Sz k q) : Sz (k + 1) ((q.floor : Int) : Rat) := by
  rw [floor_mk q rfl]
  have e1 := sz_n sq
  have e3 := dg_mono (Nat.div_le_self q.num.natAbs q.den)
  have e4 : dg (q.num.natAbs / q.den + 1) ≤ k + 1 := dg_add (v := 1) (k := k) (by omega) (by rw [dg_one]; omega)
  refine ⟨Nat.le_trans (szN_mkq (by decide)) ?_, Nat.le_trans (szD_mkq (by decide)) (by rw [dg_one]; omega)⟩
  split <;> omega
theorem fit_ok {q : Rat} (h : Sz 2000 q) : fitV q = 0 := by
  unfold fitV
  rw [if_neg]
  have := h.1
  have := h.2
  rintro (h | h) <;> omega
theorem told_ok {q : Rat} (h : Sz 2000 q) : toldV q = ratText q := by
  unfold toldV
  rw [if_pos (fit_ok h)]
theorem tellE_ok {q : Rat} (h : Sz 2000 q) : tellE 0 q = 0 := by
  unfold tellE
  rw [if_pos rfl]; exact fit_ok h
theorem tellS_ok {q : Rat} (h : Sz 2000 q) : tellS 0 q = ratText q := by
  unfold tellS
  rw [if_pos rfl]; exact told_ok h
theorem tellE_err {q : Rat} {e : Int} (h : e ≠ 0) : tellE e q = e := by
  unfold tellE
  rw [if_neg h]
theorem tellS_err {q : Rat} {e : Int} (h : e ≠ 0) : tellS e q = ⟨#[]⟩ := by
  unfold tellS
  rw [if_neg h]
theorem sz_text {q : Rat} {n : Nat} (h : ¬ ((ratText q).size : Int) > n) : Sz (n + 1) q := by
  have := text_size q
  exact ⟨by omega, by omega⟩
def isTrue : Res := fun v _ => v = .bool true
theorem yes (H : List HObj) : resK isTrue (.bool true) H := res_bool rfl
theorem same (s : ByteArray) : (s.toList == s.toList) = true := beq_self_eq_true _
section
variable {a b : ByteArray}
theorem wchecks_con (ha : Tx a) (hb : Tx b) : Con Tryd.prog 7 [.str a, .str b] isTrue := by
  refine conN (gn := fnT Tryd.f7) (by kernel_rfl) conW1_ok (inl := []) (LT := wchecks_live) (NT := wchecks_nils) rfl fun n0 => ?_
  rw [wchecks_E]
  refine ⟨ha, ha, bif_pos rfl ⟨hb, hb, bif_t (by rw [cond_true]; exact decide_eq_true rfl) ⟨txl_two ha hb, txl_two ha hb, ?_⟩⟩⟩
  rw [cond_true, decide_eq_true rfl]
  exact yes _
theorem wofs_con {n d : Int} (hn : I64 n) (hd : I64 d) : Con Tryd.prog 8 [.int .i64 n, .int .i64 d] isTrue := by
  refine conN (gn := fnT Tryd.f8) (by kernel_rfl) conW1_ok (inl := []) (LT := wofs_live) (NT := wofs_nils) rfl fun n0 => ?_
  rw [wofs_E]
  refine ⟨⟨hn, hd⟩, ?_⟩
  by_cases h0 : d = 0
  · have e : ofE d = 18 := if_pos h0
    rw [e, tellE_err (by decide), tellS_err (by decide), same]
    exact bif_pos h0 (bif_pos rfl (yes _))
  · have e : ofE d = 0 := if_neg h0
    have dn : dg n.natAbs ≤ 20 := dg_word (by have := hn.1; have := hn.2; omega)
    have dd : dg d.natAbs ≤ 20 := dg_word (by have := hd.1; have := hd.2; omega)
    have sn : Sz 20 (n : Rat) := ⟨dn, by show dg (n : Rat).den ≤ 20; rw [Rat.den_intCast, dg_one]; decide⟩
    have sd : Sz 20 (d : Rat) := ⟨dd, by show dg (d : Rat).den ≤ 20; rw [Rat.den_intCast, dg_one]; decide⟩
    have hd0 : (d : Rat) ≠ 0 := fun h => h0 (by have := congrArg Rat.num h; simpa using this)
    have sq := (szk_quo sn sd hd0).mono (m := 2000) (by decide)
    rw [e, tellE_ok sq, tellS_ok sq]
    refine bif_neg h0 (bif_pos rfl ⟨hn, hd, _, _, rfl, rfl, sn.mono (by decide), sd.mono (by decide), hd0, ?_⟩)
    rw [same]
    exact yes _
theorem len2 : decide (0 < (([a, b].length : Nat) : Int)) = true ∧ decide (1 < (([a, b].length : Nat) : Int)) = true ∧ decide (2 < (([a, b].length : Nat) : Int)) = false := ⟨rfl, rfl, rfl⟩
theorem get2 : [a, b].getD 0 ByteArray.empty = a ∧ [a, b].getD 1 ByteArray.empty = b := ⟨rfl, rfl⟩
theorem errs_ne {s t : ByteArray} (h : ratErr s ≠ 0) : ratErrs [s, t] ≠ 0 := fun hc => h (errs_two hc).1
theorem negV_empty {s : ByteArray} (h : ratErr s ≠ 0) : negV s = ⟨#[]⟩ := if_neg h
theorem wsums_con (ha : Tx a) (hb : Tx b) : Con Tryd.prog 9 [.str a, .str b] isTrue := by
  refine conN (gn := fnT Tryd.f9) (by kernel_rfl) conW1_ok (inl := [22, 64, 63, 99]) (LT := wsums_live) (NT := wsums_nils) rfl fun n0 => ?_
  rw [wsums_E]
  refine ⟨⟨ha, hb⟩, ⟨ha, hb⟩, ha, txl_two ha hb, ha, bif_not (bif_pos rfl ?_)⟩
  by_cases h0 : ratErrs [a, b] = 0
  · obtain ⟨e1, e2⟩ := errs_two h0
    obtain ⟨a1, a2⟩ := rat_ok e1
    obtain ⟨b1, b2⟩ := rat_ok e2
    refine bif_not (bif_pos e1 (bif_not (bif_pos h0 ?_)))
    simp only [len2.1, len2.2.1, len2.2.2, get2.1, get2.2, cond_true, cond_false]
    by_cases s1 : (a.size : Int) > 100
    · exact bif_pos s1 (yes _)
    refine bif_neg s1 ?_
    by_cases s2 : (b.size : Int) > 100
    · exact bif_pos s2 (yes _)
    refine bif_neg s2 ?_
    rw [a1] at s1
    rw [b1] at s2
    have sx := sz_text (n := 100) s1
    have sy := sz_text (n := 100) s2
    have t1 := (szk_add sx sy).mono (m := 2000) (by decide)
    have t2 := (szk_sub sx sy).mono (m := 2000) (by decide)
    have hn : negV a = ratText (-ratOf a) := if_pos e1
    rw [h0, tellE_ok t1, tellE_ok t2, tellS_ok t1, tellS_ok t2, hn]
    refine bif_pos rfl (bif_t rfl ⟨_, _, a1, b1, a2.mono (by decide), b2.mono (by decide), bif_t (same _) ⟨_, _, a1, b1, a2.mono (by decide), b2.mono (by decide), bif_t (same _) ⟨_, a1, a2.mono (by decide), ?_⟩⟩⟩)
    rw [same]
    exact yes _
  · rw [tellE_err h0, tellE_err h0, tellS_err h0, tellS_err h0]
    have fin : bif !decide (ratErrs [a, b] = 0) then bif decide (ratErrs [a, b] = ratErrs [a, b]) then bif bif true then decide (ratErrs [a, b] = ratErrs [a, b]) else false then bif bif true then (ByteArray.mk #[]).toList == (ByteArray.mk #[]).toList else false then resK isTrue (AV.bool (bif true then (ByteArray.mk #[]).toList == (ByteArray.mk #[]).toList else false)) [HObj.typed (ETy.one CTy.str) [a, b] false] else resK isTrue (AV.bool false) [HObj.typed (ETy.one CTy.str) [a, b] false] else resK isTrue (AV.bool false) [HObj.typed (ETy.one CTy.str) [a, b] false] else resK isTrue (AV.bool false) [HObj.typed (ETy.one CTy.str) [a, b] false] else True := by
      refine bif_not (bif_neg h0 (bif_pos rfl (bif_t (by rw [cond_true]; exact decide_eq_true rfl) (bif_t (by rw [cond_true]; exact same _) ?_))))
      rw [cond_true, same]
      exact yes _
    have dn : (!decide (ratErrs [a, b] = 0)) = true := by rw [decide_eq_false h0]; rfl
    rw [dn, cond_true] at fin
    rw [dn, cond_true, cond_true]
    by_cases e1 : ratErr a = 0
    · exact bif_not (bif_pos e1 fin)
    · rw [negV_empty e1, same]
      rw [same] at fin
      exact bif_not (bif_neg e1 (bif_f (by decide) fin))
theorem wprods_con (ha : Tx a) (hb : Tx b) : Con Tryd.prog 10 [.str a, .str b] isTrue := by
  refine conN (gn := fnT Tryd.f10) (by kernel_rfl) conW1_ok (inl := [22, 64, 63, 99]) (LT := wprods_live) (NT := wprods_nils) rfl fun n0 => ?_
  rw [wprods_E]
  refine ⟨⟨ha, hb⟩, ⟨ha, hb⟩, txl_two ha hb, ?_⟩
  by_cases h0 : ratErrs [a, b] = 0
  · obtain ⟨e1, e2⟩ := errs_two h0
    obtain ⟨a1, a2⟩ := rat_ok e1
    obtain ⟨b1, b2⟩ := rat_ok e2
    refine bif_not (bif_pos h0 ?_)
    refine bif_pos (show (0 : Int) < ((2 : Nat) : Int) by decide) ?_
    by_cases s1 : (a.size : Int) > 100
    · exact bif_pos s1 (yes _)
    refine bif_neg s1 (bif_pos (show (1 : Int) < ((2 : Nat) : Int) by decide) ?_)
    by_cases s2 : (b.size : Int) > 100
    · exact bif_pos s2 (yes _)
    refine bif_neg s2 (bif_neg (show ¬ (2 : Int) < ((2 : Nat) : Int) by decide) ?_)
    have sx := sz_text (n := 100) (a1 ▸ s1)
    have sy := sz_text (n := 100) (b1 ▸ s2)
    have t1 := (szk_mul sx sy).mono (m := 2000) (by decide)
    rw [h0, tellE_ok t1, tellS_ok t1]
    refine bif_not (bif_pos rfl ⟨_, _, a1, b1, a2.mono (by decide), b2.mono (by decide), bif_f (by rw [cond_false, same]; decide) ?_⟩)
    by_cases hz : b = zeroS
    · have e : divE a b = 18 := if_pos ⟨h0, hz⟩
      rw [e, tellE_err (by decide), tellS_err (by decide)]
      refine bif_t (bytes48.2 hz) (bif_pos rfl ?_)
      rw [cond_true, same]
      exact yes _
    · have e : divE a b = 0 := (if_neg fun h => hz h.2).trans h0
      have hy : ratOf b ≠ 0 := fun h => hz (b1.trans (by rw [h]; exact ratText_zero))
      have t2 := (szk_quo sx sy hy).mono (m := 2000) (by decide)
      rw [e, tellE_ok t2, tellS_ok t2]
      refine bif_f (fun h => hz (bytes48.1 h)) (bif_pos rfl ⟨_, _, a1, b1, a2.mono (by decide), b2.mono (by decide), hy, ?_⟩)
      rw [cond_true, same]
      exact yes _
  · have e : divE a b = ratErrs [a, b] := if_neg fun h => h0 h.1
    rw [e, tellE_err h0, tellE_err h0, tellS_err h0, tellS_err h0]
    refine bif_not (bif_neg h0 (bif_pos rfl (bif_t (by rw [cond_true]; exact decide_eq_true rfl) (bif_t (by rw [cond_true]; exact same _) ?_))))
    rw [cond_true, same]
    exact yes _
theorem errs_one {s t : ByteArray} (h : ratErr s = 0) : ratErrs [s, t] = ratErr t := by
  unfold ratErrs
  rw [if_pos h]
  unfold ratErrs
  split
  · rename_i h0; exact h0.symm
  · rfl
theorem errs_first {s t : ByteArray} (h : ratErr s ≠ 0) : ratErrs [s, t] = ratErr s := by
  unfold ratErrs
  rw [if_neg h]
theorem wcmps_con (ha : Tx a) (hb : Tx b) : Con Tryd.prog 11 [.str a, .str b] isTrue := by
  refine conN (gn := fnT Tryd.f11) (by kernel_rfl) conW1_ok (inl := [22, 64, 63, 99, 51, 97, 96, 108]) (LT := wcmps_live) (NT := wcmps_nils) rfl fun n0 => ?_
  rw [wcmps_E]
  refine ⟨⟨ha, hb⟩, ha, ha, ha, ?_⟩
  by_cases e1 : ratErr a = 0
  · refine bif_not (bif_pos e1 ⟨hb, ?_⟩)
    have he := errs_one (t := b) e1
    by_cases e2 : ratErr b = 0
    · have h0 : ratErrs [a, b] = 0 := he.trans e2
      obtain ⟨a1, a2⟩ := rat_ok e1
      obtain ⟨b1, b2⟩ := rat_ok e2
      refine bif_not (bif_pos e2 ?_)
      refine bif_pos (show (0 : Int) < ((2 : Nat) : Int) by decide) ?_
      by_cases s1 : (a.size : Int) > 100
      · exact bif_pos s1 (yes _)
      refine bif_neg s1 (bif_pos (show (1 : Int) < ((2 : Nat) : Int) by decide) ?_)
      by_cases s2 : (b.size : Int) > 100
      · exact bif_pos s2 (yes _)
      refine bif_neg s2 (bif_neg (show ¬ (2 : Int) < ((2 : Nat) : Int) by decide) ?_)
      have sx := sz_text (n := 100) (a1 ▸ s1)
      have t1 : Sz 2000 (floorQ a) := (szk_floor (by decide) sx).mono (m := 2000) (by decide)
      have t2 : tellE (ratErr a) (floorQ a) = 0 := by rw [e1]; exact tellE_ok t1
      have t3 : tellS (ratErr a) (floorQ a) = ratText (floorQ a) := by rw [e1]; exact tellS_ok t1
      have c1 : cmpV a b = sgn (ratOf a - ratOf b) := if_pos h0
      have c2 : signV a = sgn (ratOf a) := if_pos e1
      refine bif_pos (show (0 : Int) < ((3 : Nat) : Int) by decide) (bif_not (bif_pos h0 ?_))
      refine bif_pos (show (1 : Int) < ((3 : Nat) : Int) by decide) (bif_not (bif_pos e1 ?_))
      refine bif_pos (show (2 : Int) < ((3 : Nat) : Int) by decide) (bif_not (bif_pos t2 ?_))
      refine bif_neg (show ¬ (3 : Int) < ((3 : Nat) : Int) by decide) ?_
      refine ⟨_, _, a1, b1, a2.mono (by decide), b2.mono (by decide), bif_t (by rw [cond_true]; exact decide_eq_true c1) ⟨_, a1, a2.mono (by decide), bif_t (by rw [cond_true]; exact decide_eq_true c2) ⟨_, a1, a2.mono (by decide), ?_⟩⟩⟩
      rw [t3, cond_true]
      have : ((ratText (floorQ a)).toList == (ratText (((ratOf a).floor : Int) : Rat)).toList) = true := same _
      rw [this]
      exact yes _
    · have h0 : ¬ ratErrs [a, b] = 0 := he ▸ e2
      have c1 : cmpV a b = 0 := if_neg h0
      refine bif_not (bif_neg e2 (bif_pos he (bif_t (by rw [cond_true]; exact decide_eq_true c1) ?_)))
      rw [cond_true, decide_eq_true e1]
      exact yes _
  · have he := errs_first (t := b) e1
    have h0 : ¬ ratErrs [a, b] = 0 := he ▸ e1
    have c1 : cmpV a b = 0 := if_neg h0
    have c2 : signV a = 0 := if_neg e1
    rw [tellE_err e1, tellS_err e1]
    refine bif_not (bif_neg e1 (bif_pos he (bif_t (by rw [cond_true]; exact decide_eq_true rfl) (bif_t (by rw [cond_true]; exact decide_eq_true rfl) (bif_t (by rw [cond_true]; exact decide_eq_true c1) (bif_t (by rw [cond_true]; exact decide_eq_true c2) ?_))))))
    rw [cond_true, same]
    exact yes _
end
end Go.Proofs.YtolikobhjmnedaaDoor.Lib
end
