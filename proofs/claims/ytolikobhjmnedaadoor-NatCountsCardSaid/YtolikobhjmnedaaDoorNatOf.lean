/- Package nat's Of, and the reference's RatInt of numbers that are not negative. -/
import Derived.Test.YtolikobhjmnedaaDoorNatRefMul
import Derived.Test.YtolikobhjmnedaaDoorNatGcd
set_option linter.unusedSimpArgs false
set_option linter.unusedVariables false
namespace Go.Proofs.YtolikobhjmnedaaDoor.Pure
open Go.RowKit Go.Proofs.YtolikobhjmnedaaDoor.GN Go.Proofs.YtolikobhjmnedaaDoorW.PrintWords Go.Proofs.YtolikobhjmnedaaDoorW.PrintLast Go.Proofs.YtolikobhjmnedaaDoor.Aid Go.Proofs.YtolikobhjmnedaaDoor.NatVal

theorem noLead_snoc {l : List Int} {x : Int} (h : x ≠ 0) : noLead (l ++ [x]) := fun hne => by
  have : (l ++ [x]).getLast hne = x := by simp
  rw [this]; exact h
theorem of_l0 (N : Int) (m : Nat) : ∀ (n : Nat) (out : List Int), n ≤ m → n ≤ 9223372036854775807 → out.length + n ≤ 9300000000000000000 → out.length ≤ 1000 - (if n = 0 then 0 else 1) → (out.length ≤ 100 ∨ n = 0) → ok BB out → (n = 0 → noLead out) → val BB out + BB ^ out.length * (n : Int) = N →
    n < 1000000000 ^ (100 - out.length) →
    ∃ r, Ev (fun k => nat_Of.l0 k (n : Int) out) r ∧ Limbs r N := by
  induction m with
  | zero =>
    intro n out hn _ _ _ _ ho hl hv _
    obtain rfl : n = 0 := by omega
    refine ⟨out, ?_, ⟨by simpa using hv, ho, hl rfl⟩⟩
    refine Ev.step (fun k => nat_Of.l0.eq_2 _ _ k) ?_
    exact Ev.no (by omega) (Ev.now _)
  | succ m ih =>
    intro n out hn hn2 h3 h4 h5 ho hl hv hb
    by_cases h0 : n = 0
    · subst h0
      refine ⟨out, ?_, ⟨by simpa using hv, ho, hl rfl⟩⟩
      refine Ev.step (fun k => nat_Of.l0.eq_2 _ _ k) ?_
      exact Ev.no (by omega) (Ev.now _)
    · have hlen : out.length < 100 := by
        by_cases h : out.length < 100
        · exact h
        · rw [show 100 - out.length = 0 by omega, Nat.pow_zero] at hb
          omega
      obtain ⟨r, r1, r2⟩ := ih (n / 1000000000) (out ++ [((n % 1000000000 : Nat) : Int)]) (by omega) (by omega) (by simp; omega) (by simp; split <;> omega) (by simp; omega) (ok_append.2 ⟨ho, ok_cons.2 ⟨⟨by omega, by show _ < (1000000000 : Int); omega⟩, ok_nil _⟩⟩) (fun hz => noLead_snoc (by omega)) (by
        rw [val_snoc, List.length_append, List.length_singleton, Int.pow_succ, ← hv]
        have : (n : Int) = 1000000000 * ((n / 1000000000 : Nat) : Int) + ((n % 1000000000 : Nat) : Int) := by omega
        rw [this]
        exact NatAlg.of1 _ _ _ _ _) (by
        rw [List.length_append, List.length_singleton]
        have e : 100 - out.length = (100 - (out.length + 1)) + 1 := by omega
        rw [e, Nat.pow_succ] at hb
        exact Nat.div_lt_of_lt_mul (by rw [Nat.mul_comm]; exact hb))
      refine ⟨r, ?_, r2⟩
      refine Ev.step (fun k => nat_Of.l0.eq_2 _ _ k) ?_
      rw [Int.tmod_eq_emod_of_nonneg (by omega), Int.tdiv_eq_ediv_of_nonneg (by omega), w64 (i := (n : Int) / 1000000000) (by omega) (by omega), show (n : Int) % 1000000000 % 4294967296 = ((n % 1000000000 : Nat) : Int) by omega, show (n : Int) / 1000000000 = ((n / 1000000000 : Nat) : Int) by omega]
      exact Ev.yes (by omega) (Ev.yes (by omega) r1)
theorem of_ev (n : Nat) (h : n ≤ 9223372036854775807) : ∃ r, Ev (fun k => nat_Of.f k (n : Int)) r ∧ Limbs r (n : Int) := by
  unfold nat_Of.f
  exact of_l0 n n n [] (Nat.le_refl _) h (by simp; omega) (by simp only [List.length_nil]; split <;> omega) (.inl (by simp)) (ok_nil _) (fun _ => noLead_nil) (by simp [val]) (by
    have : (9223372036854775807 : Nat) < 1000000000 ^ 100 := by decide +kernel
    simp only [List.length_nil, Nat.sub_zero]
    omega)
theorem limbs_short {l : List Int} {v : Int} (h : Limbs l v) (n : Nat) (hv : v < BB ^ n) : l.length ≤ n := by
  by_cases hle : l.length ≤ n
  · exact hle
  · have hne : l ≠ [] := fun z => by rw [z] at hle; simp at hle
    have h1 := val_ge (b := BB) (by decide) h.2.1 h.2.2 hne
    have h2 : BB ^ n ≤ BB ^ (l.length - 1) := pow_mono (by decide) (by omega)
    rw [h.1] at h1
    omega
/-! ### RatInt -/
theorem digit_text (d : Nat) (h : d < 10) : bytesOf ((⟨#[48, 49, 50, 51, 52, 53, 54, 55, 56, 57]⟩ : ByteArray).extract d (d + 1)) = [48 + (d : Int)] := by
  have : d = 0 ∨ d = 1 ∨ d = 2 ∨ d = 3 ∨ d = 4 ∨ d = 5 ∨ d = 6 ∨ d = 7 ∨ d = 8 ∨ d = 9 := by omega
  rcases this with rfl | rfl | rfl | rfl | rfl | rfl | rfl | rfl | rfl | rfl <;> rfl
theorem ratint_l0 (N : Int) (m : Nat) : ∀ (n : Nat) (x : ByteArray), n ≤ m → n ≤ 9223372036854775807 → x.size ≤ 30 → n < 10 ^ (30 - x.size) → asc (bytesOf x) → (n = 0 → 1 < x.size → rd (bytesOf x) 0 ≠ 48) → (n = 0 → 0 < x.size) → val 10 (digs (bytesOf x)) + 10 ^ x.size * (n : Int) = N →
    ∃ t, Ev (fun k => gamehallref2_RatInt.l0 k (n : Int) x) t ∧ Canon t N ∧ t.size ≤ 30 := by
  induction m with
  | zero =>
    intro n x hn _ hx hb ha hl hp hv
    obtain rfl : n = 0 := by omega
    refine ⟨x, ?_, ⟨ha, by simpa using hv, hp rfl, hl rfl⟩, hx⟩
    refine Ev.step (fun k => gamehallref2_RatInt.l0.eq_2 _ _ k) ?_
    have hne : ¬ x.toList = ([] : List UInt8) := fun z => by have := (list_nil x).1 z; have := hp rfl; omega
    exact Ev.no (by omega) (Ev.no hne (Ev.now _))
  | succ m ih =>
    intro n x hn hn2 hx hb ha hl hp hv
    by_cases h0 : n = 0
    · subst h0
      refine ⟨x, ?_, ⟨ha, by simpa using hv, hp rfl, hl rfl⟩, hx⟩
      refine Ev.step (fun k => gamehallref2_RatInt.l0.eq_2 _ _ k) ?_
      have hne : ¬ x.toList = ([] : List UInt8) := fun z => by have := (list_nil x).1 z; have := hp rfl; omega
      exact Ev.no (by omega) (Ev.no hne (Ev.now _))
    · have hlen : x.size < 30 := by
        by_cases h : x.size < 30
        · exact h
        · rw [show 30 - x.size = 0 by omega, Nat.pow_zero] at hb
          omega
      have hbt := digit_text (n % 10) (by omega)
      have hcat : bytesOf ((⟨#[48, 49, 50, 51, 52, 53, 54, 55, 56, 57]⟩ : ByteArray).extract (n % 10) (n % 10 + 1) ++ x) = (48 + ((n % 10 : Nat) : Int)) :: bytesOf x := by rw [bytesOf_append, hbt]; rfl
      have hcs : ((⟨#[48, 49, 50, 51, 52, 53, 54, 55, 56, 57]⟩ : ByteArray).extract (n % 10) (n % 10 + 1) ++ x).size = x.size + 1 := by rw [← bytesOf_length, hcat, List.length_cons, bytesOf_length]
      have hes : ((⟨#[48, 49, 50, 51, 52, 53, 54, 55, 56, 57]⟩ : ByteArray).extract (n % 10) (n % 10 + 1)).size = 1 := by rw [← bytesOf_length, hbt]; rfl
      obtain ⟨t, t1, t2⟩ := ih (n / 10) ((⟨#[48, 49, 50, 51, 52, 53, 54, 55, 56, 57]⟩ : ByteArray).extract (n % 10) (n % 10 + 1) ++ x) (by omega) (by omega) (by omega) (by
        rw [hcs]
        have e : 30 - x.size = (30 - (x.size + 1)) + 1 := by omega
        rw [e, Nat.pow_succ] at hb
        exact Nat.div_lt_of_lt_mul (by rw [Nat.mul_comm]; exact hb)) (by rw [hcat]; exact asc_cons (by omega) ha) (fun hz _ => by
        rw [hcat]
        show 48 + ((n % 10 : Nat) : Int) ≠ 48
        omega) (fun _ => by omega) (by
        rw [hcat, digs_cons, val_append, digs_length, bytesOf_length, hcs, Int.pow_succ, ← hv]
        simp only [val]
        have : (n : Int) = 10 * ((n / 10 : Nat) : Int) + ((n % 10 : Nat) : Int) := by omega
        rw [this, show (48 + ((n % 10 : Nat) : Int) - 48 + 10 * 0) = ((n % 10 : Nat) : Int) by omega]
        exact NatAlg.of1 _ _ _ _ _)
      refine ⟨t, ?_, t2⟩
      refine Ev.step (fun k => gamehallref2_RatInt.l0.eq_2 _ _ k) ?_
      rw [Int.tmod_eq_emod_of_nonneg (by omega), Int.tdiv_eq_ediv_of_nonneg (by omega), w64 (i := (n : Int) / 10) (by omega) (by omega), show (n : Int) % 10 = ((n % 10 : Nat) : Int) by omega, w64s (by omega), show (n : Int) / 10 = ((n / 10 : Nat) : Int) by omega, Int.toNat_natCast, Int.toNat_natCast]
      exact Ev.yes (by omega) (Ev.yes (by omega) (Ev.yes (by omega) (Ev.yes (by omega) (Ev.yes (by omega) t1))))
theorem ratint_ev (n : Nat) (h : n ≤ 9223372036854775807) : ∃ t, Ev (fun k => gamehallref2_RatInt.f k (n : Int)) t ∧ Canon t (n : Int) ∧ t.size ≤ 30 := by
  have hp30 : (9223372036854775807 : Nat) < 10 ^ 30 := by decide +kernel
  have hp29 : (0 : Nat) < 10 ^ 29 := by decide +kernel
  by_cases h0 : n = 0
  · subst h0
    obtain ⟨t, t1, t2⟩ := ratint_l0 0 0 0 (⟨#[48]⟩ : ByteArray) (by omega) (by omega) (by decide) hp29 (asc_cons (l := []) (by decide) (fun c hc => by simp at hc)) (fun _ z => by revert z; decide) (fun _ => by decide) (by rfl)
    refine ⟨t, ?_, t2⟩
    refine Ev.step (fun k => gamehallref2_RatInt.f.eq_2 _ k) ?_
    refine Ev.yes (by omega) ?_
    refine Ev.step (fun k => gamehallref2_RatInt.l0.eq_2 _ _ k) ?_
    have e1 : wrap64 ((Int.tmod 0 10) + 1) = 1 := w64 (by decide) (by decide)
    have e2 : wrap64 (Int.tdiv 0 10) = 0 := w64 (by decide) (by decide)
    have hn : (⟨#[]⟩ : ByteArray).toList = ([] : List UInt8) := by rw [ByteArray.toList_eq]
    rw [show ((0 : Nat) : Int) = 0 from rfl, e1, e2]
    exact Ev.no (by omega) (Ev.yes hn (Ev.yes (by decide) (Ev.yes (by decide) (Ev.yes (by decide) (Ev.yes (by decide) t1)))))
  · obtain ⟨t, t1, t2⟩ := ratint_l0 (n : Int) n n ⟨#[]⟩ (Nat.le_refl _) h (by show 0 ≤ 30; omega) (by show n < 10 ^ 30; omega) (fun c hc => by simp [bytesOf] at hc) (fun hz => absurd hz h0) (fun hz => absurd hz h0) (by
      show val 10 [] + 10 ^ 0 * (n : Int) = n
      simp [val])
    refine ⟨t, ?_, t2⟩
    refine Ev.step (fun k => gamehallref2_RatInt.f.eq_2 _ k) ?_
    exact Ev.yes (by omega) t1
end Go.Proofs.YtolikobhjmnedaaDoor.Pure
