/- Numbers as lists of digits, the least one first, in any base: values, ranges, uniqueness; texts of decimal digits. -/
import Derived.Test.YtolikobhjmnedaaDoorAid
set_option linter.unusedSimpArgs false
set_option linter.unusedVariables false
namespace Go.Proofs.YtolikobhjmnedaaDoor.NatVal
open Go.RowKit Go.Proofs.YtolikobhjmnedaaDoorW.PrintWords Go.Proofs.YtolikobhjmnedaaDoor.Aid

/-- the value of a list of digits in the base b, the least one first -/
def val (b : Int) : List Int → Int
  | [] => 0
  | x :: r => x + b * val b r
/-- every digit is one of the base -/
def ok (b : Int) (l : List Int) : Prop := ∀ x ∈ l, 0 ≤ x ∧ x < b
/-- no leading zero: the last digit is not 0 -/
def noLead (l : List Int) : Prop := ∀ h : l ≠ [], l.getLast h ≠ 0
theorem ok_nil (b : Int) : ok b [] := by simp [ok]
theorem ok_cons {b x : Int} {r : List Int} : ok b (x :: r) ↔ (0 ≤ x ∧ x < b) ∧ ok b r := by simp [ok]
theorem ok_append {b : Int} {l r : List Int} : ok b (l ++ r) ↔ ok b l ∧ ok b r := by
  simp only [ok, List.mem_append]
  constructor
  · intro h; exact ⟨fun x hx => h x (.inl hx), fun x hx => h x (.inr hx)⟩
  · rintro ⟨h1, h2⟩ x (hx | hx)
    · exact h1 x hx
    · exact h2 x hx
theorem ok_rd {b : Int} {l : List Int} (h : ok b l) (j : Nat) (hj : j < l.length) : 0 ≤ rd l (j : Int) ∧ rd l (j : Int) < b := h _ (mem_rd l j hj)
theorem val_nonneg {b : Int} (hb : 0 ≤ b) : ∀ {l : List Int}, ok b l → 0 ≤ val b l
  | [], _ => by simp [val]
  | x :: r, h => by
    obtain ⟨h1, h2⟩ := ok_cons.1 h
    have := val_nonneg hb h2
    have h3 : 0 ≤ b * val b r := Int.mul_nonneg hb this
    simp only [val]; omega
theorem val_lt {b : Int} (hb : 0 < b) : ∀ {l : List Int}, ok b l → val b l < b ^ l.length
  | [], _ => by simp [val]
  | x :: r, h => by
    obtain ⟨h1, h2⟩ := ok_cons.1 h
    have h3 := val_lt hb h2
    have h4 : b * (val b r + 1) ≤ b * b ^ r.length := Int.mul_le_mul_of_nonneg_left (by omega) (by omega)
    rw [Int.mul_add, Int.mul_one] at h4
    rw [List.length_cons, Int.pow_succ, Int.mul_comm (b ^ r.length) b]
    simp only [val]; omega
theorem val_append {b : Int} : ∀ (l r : List Int), val b (l ++ r) = val b l + b ^ l.length * val b r
  | [], r => by simp [val]
  | x :: l, r => by
    rw [List.cons_append, List.length_cons]
    simp only [val]
    rw [val_append l r, Int.mul_add, ← Int.mul_assoc, Int.pow_succ, Int.mul_comm (b ^ l.length) b]
    omega
theorem val_snoc {b : Int} (l : List Int) (x : Int) : val b (l ++ [x]) = val b l + b ^ l.length * x := by
  rw [val_append]; simp [val]
theorem val_zeros {b : Int} (l : List Int) (n : Nat) : val b (l ++ List.replicate n 0) = val b l := by
  rw [val_append]
  have : ∀ n, val b (List.replicate n 0) = 0 := by
    intro n
    induction n with
    | zero => rfl
    | succ n ih => rw [List.replicate_succ]; simp only [val]; rw [ih]; simp
  rw [this]; simp
theorem val_inj_len {b : Int} (hb : 0 < b) : ∀ {l r : List Int}, ok b l → ok b r → l.length = r.length → val b l = val b r → l = r
  | [], [], _, _, _, _ => rfl
  | [], _ :: _, _, _, h, _ => by simp at h
  | _ :: _, [], _, _, h, _ => by simp at h
  | x :: l, y :: r, h1, h2, hl, hv => by
    obtain ⟨a1, a2⟩ := ok_cons.1 h1
    obtain ⟨b1, b2⟩ := ok_cons.1 h2
    simp only [val] at hv
    have e1 : (x + b * val b l) % b = x := by rw [Int.add_mul_emod_self_left]; exact Int.emod_eq_of_lt a1.1 a1.2
    have e2 : (y + b * val b r) % b = y := by rw [Int.add_mul_emod_self_left]; exact Int.emod_eq_of_lt b1.1 b1.2
    have hxy : x = y := by rw [← e1, ← e2, hv]
    subst hxy
    have hm : b * val b l = b * val b r := by omega
    have hm' : val b l = val b r := Int.eq_of_mul_eq_mul_left (by omega) hm
    rw [val_inj_len hb a2 b2 (by simpa using hl) hm']
theorem pow_mono {b : Int} (hb : 1 ≤ b) {m n : Nat} (h : m ≤ n) : b ^ m ≤ b ^ n := by
  obtain ⟨k, rfl⟩ := Nat.exists_eq_add_of_le h
  have h1 : 0 < b ^ m := Int.pow_pos (by omega)
  have h2 : 0 < b ^ k := Int.pow_pos (by omega)
  rw [Int.pow_add]
  have := Int.mul_le_mul_of_nonneg_left (show (1 : Int) ≤ b ^ k by omega) (show 0 ≤ b ^ m by omega)
  omega
theorem noLead_nil : noLead [] := fun h => absurd rfl h
/-- a list without a leading zero is at least the power of the base -/
theorem val_ge {b : Int} (hb : 1 < b) {l : List Int} (h : ok b l) (ht : noLead l) (hl : l ≠ []) : b ^ (l.length - 1) ≤ val b l := by
  have e := List.dropLast_concat_getLast hl
  have hx := ht hl
  have hlen : l.length - 1 = l.dropLast.length := by simp
  have hok := h
  rw [← e] at hok
  obtain ⟨h1, h2⟩ := ok_append.1 hok
  have h3 := h2 (l.getLast hl) (by simp)
  have hp : 0 < b ^ l.dropLast.length := Int.pow_pos (by omega)
  have h4 : val b l = val b l.dropLast + b ^ l.dropLast.length * l.getLast hl := by rw [← val_snoc, e]
  have h5 := val_nonneg (by omega) h1
  have h6 : b ^ l.dropLast.length * 1 ≤ b ^ l.dropLast.length * l.getLast hl := Int.mul_le_mul_of_nonneg_left (by omega) (by omega)
  rw [hlen]; omega
theorem len_le_of_val {b : Int} (hb : 1 < b) {l r : List Int} (h : ok b l) (ht : noLead l) (h' : ok b r) (hv : val b l ≤ val b r) : l.length ≤ r.length := by
  by_cases hl : l = []
  · subst hl; simp
  · have h1 := val_ge hb h ht hl
    have h2 := val_lt (by omega) h'
    by_cases hle : l.length ≤ r.length
    · exact hle
    · have h3 : b ^ r.length ≤ b ^ (l.length - 1) := pow_mono (by omega) (by omega)
      omega
theorem val_inj {b : Int} (hb : 1 < b) {l r : List Int} (h : ok b l) (ht : noLead l) (h' : ok b r) (ht' : noLead r) (hv : val b l = val b r) : l = r :=
  val_inj_len (by omega) h h' (Nat.le_antisymm (len_le_of_val hb h ht h' (by omega)) (len_le_of_val hb h' ht' h (by omega))) hv
end Go.Proofs.YtolikobhjmnedaaDoor.NatVal
