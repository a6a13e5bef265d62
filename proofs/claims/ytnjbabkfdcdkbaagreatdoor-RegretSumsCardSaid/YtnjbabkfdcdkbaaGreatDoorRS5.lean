/- Texts of this session, put together. -/
import Derived.Test.YtnjbabkfdcdkbaaGreatDoorRS4
section
/- The digits and the canonical text of a natural number; what texts say. -/
set_option linter.unusedSimpArgs false
set_option linter.unusedVariables false
namespace Go.Proofs.YtnjbabkfdcdkbaaGreatDoor.Sem
open Go Go.RowKit Go.Proofs.YtnjbabkfdcdkbaaGreatDoor.ND Go.Proofs.YtnjbabkfdcdkbaaGreatDoorW.PrintWords Go.Proofs.YtnjbabkfdcdkbaaGreatDoor.Aid Go.Proofs.YtnjbabkfdcdkbaaGreatDoor.NatVal Go.Proofs.YtnjbabkfdcdkbaaGreatDoor.Pure
theorem digits_ex (b : Nat) (hb : 1 < b) : ∀ n : Nat, ∃ l, val (b : Int) l = (n : Int) ∧ ok (b : Int) l ∧ noLead l := by
  intro n
  induction n using Nat.strongRecOn with
  | _ n ih =>
    by_cases h0 : n = 0
    · subst h0; exact ⟨[], rfl, ok_nil _, noLead_nil⟩
    · have hlt : n / b < n := Nat.div_lt_self (by omega) hb
      obtain ⟨l, h1, h2, h3⟩ := ih (n / b) hlt
      have hm := Nat.mod_lt n (show 0 < b by omega)
      have hd := Nat.div_add_mod n b
      refine ⟨((n % b : Nat) : Int) :: l, ?_, ok_cons.2 ⟨⟨by omega, by omega⟩, h2⟩, fun hne => ?_⟩
      · simp only [val]
        rw [h1]
        have : ((b * (n / b) + n % b : Nat) : Int) = n := by rw [hd]
        rw [Int.natCast_add, Int.natCast_mul] at this
        omega
      · by_cases hl : l = []
        · subst hl
          simp only [val] at h1
          have hz : n / b = 0 := by omega
          rw [hz, Nat.mul_zero, Nat.zero_add] at hd
          show ((n % b : Nat) : Int) ≠ 0
          omega
        · rw [List.getLast_cons hl]
          exact h3 hl
theorem limbs_ex (n : Nat) : ∃ l, Limbs l (n : Int) := by
  obtain ⟨l, h⟩ := digits_ex 1000000000 (by decide) n
  exact ⟨l, h⟩
noncomputable def limbsOf (n : Nat) : List Int := Classical.choose (limbs_ex n)
theorem limbsOf_is (n : Nat) : Limbs (limbsOf n) (n : Int) := Classical.choose_spec (limbs_ex n)
theorem limbs_eq {l : List Int} {n : Nat} (h : Limbs l (n : Int)) : l = limbsOf n := by
  have h' := limbsOf_is n
  exact val_inj (b := BB) (by decide) h.2.1 h.2.2 h'.2.1 h'.2.2 (by rw [h.1, h'.1])
theorem limbs_eq' {l : List Int} {v : Int} {n : Nat} (h : Limbs l v) (hv : v = (n : Int)) : l = limbsOf n := limbs_eq (hv ▸ h)
theorem limbsOf_zero : limbsOf 0 = [] := (limbs_eq (l := []) ⟨rfl, ok_nil _, noLead_nil⟩).symm
theorem limbsOf_len {n : Nat} : (limbsOf n).length = 0 ↔ n = 0 := by
  have := limbs_pos (limbsOf_is n)
  omega
theorem canon_ex (n : Nat) : ∃ s, Canon s (n : Int) := by
  by_cases h0 : n = 0
  · subst h0
    exact ⟨⟨#[48]⟩, asc_cons (l := []) (by decide) (fun c hc => by simp at hc), rfl, by decide, fun z => by revert z; decide⟩
  · obtain ⟨l, h1, h2, h3⟩ := digits_ex 10 (by decide) n
    have hne : l ≠ [] := fun z => by subst z; simp only [val] at h1; omega
    have ha : asc ((l.map fun d => d + 48).reverse) := fun c hc => by
      rw [List.mem_reverse, List.mem_map] at hc
      obtain ⟨d, hd, rfl⟩ := hc
      have := h2 d hd
      omega
    have hb := bytesOf_strOfNums ha
    have hdg : digs ((l.map fun d => d + 48).reverse) = l := by
      unfold digs
      rw [List.map_reverse, List.reverse_reverse, List.map_map]
      conv => rhs; rw [← List.map_id l]
      exact List.map_congr_left fun d _ => by show d + 48 - 48 = d; omega
    have hsz : (strOfNums ((l.map fun d => d + 48).reverse)).size = l.length := by rw [← bytesOf_length, hb]; simp
    have hpos : 0 < l.length := List.length_pos_iff.2 hne
    refine ⟨strOfNums ((l.map fun d => d + 48).reverse), by rw [hb]; exact ha, by rw [hb, hdg]; exact h1, by omega, fun _ => ?_⟩
    rw [hb]
    have hl := h3 hne
    have : rd ((l.map fun d => d + 48).reverse) 0 = l.getLast hne + 48 := by
      have hr : (l.map fun d => d + 48).reverse = (l.getLast hne + 48) :: ((l.dropLast).map fun d => d + 48).reverse := by
        conv => lhs; rw [← List.dropLast_concat_getLast hne]
        simp
      rw [hr]; rfl
    rw [this]
    omega
noncomputable def natText (n : Nat) : ByteArray := Classical.choose (canon_ex n)
theorem natText_is (n : Nat) : Canon (natText n) (n : Int) := Classical.choose_spec (canon_ex n)
theorem ba_ext {s t : ByteArray} (h : s.toList = t.toList) : s = t := by
  rw [ByteArray.toList_eq, ByteArray.toList_eq] at h
  cases s; cases t
  exact congrArg ByteArray.mk (Array.toList_inj.1 h)
theorem bytes_ext {s t : ByteArray} (h : bytesOf s = bytesOf t) : s = t := ba_ext (bytes_inj h)
theorem text_eq {s : ByteArray} {n : Nat} (h : Canon s (n : Int)) : s = natText n := ba_ext (canon_inj h (natText_is n))
theorem text_eq' {s : ByteArray} {v : Int} {n : Nat} (h : Canon s v) (hv : v = (n : Int)) : s = natText n := text_eq (hv ▸ h)
theorem natText_inj {u v : Nat} (h : natText u = natText v) : u = v := by
  have h1 := (natText_is u).2.1
  have h2 := (natText_is v).2.1
  rw [h] at h1
  omega
theorem natText_zero : natText 0 = ⟨#[48]⟩ := by
  have h : Canon (⟨#[48]⟩ : ByteArray) ((0 : Nat) : Int) := ⟨asc_cons (c := 48) (l := []) (by decide) (fun c hc => by simp at hc), rfl, by decide, fun z => by revert z; decide⟩
  exact (text_eq h).symm
theorem natText_one : natText 1 = ⟨#[49]⟩ := by
  have h : Canon (⟨#[49]⟩ : ByteArray) ((1 : Nat) : Int) := ⟨asc_cons (c := 49) (l := []) (by decide) (fun c hc => by simp at hc), rfl, by decide, fun z => by revert z; decide⟩
  exact (text_eq h).symm
theorem natText_two : natText 2 = ⟨#[50]⟩ := by
  have h : Canon (⟨#[50]⟩ : ByteArray) ((2 : Nat) : Int) := ⟨asc_cons (c := 50) (l := []) (by decide) (fun c hc => by simp at hc), rfl, by decide, fun z => by revert z; decide⟩
  exact (text_eq h).symm
theorem natText_asc (n : Nat) : asc (bytesOf (natText n)) := (natText_is n).1
noncomputable def dg (n : Nat) : Nat := (natText n).size
theorem dg_pos (n : Nat) : 1 ≤ dg n := (natText_is n).2.2.1
theorem dg_lt (n : Nat) {k : Nat} (h : dg n ≤ k) : n < 10 ^ k := by
  have := canon_lt (natText_is n) k h
  have e : ((10 ^ k : Nat) : Int) = 10 ^ k := by simp
  omega
theorem dg_le {n k : Nat} (h0 : 1 ≤ k) (h : n < 10 ^ k) : dg n ≤ k := canon_size (natText_is n) k h0 (by
  have e : ((10 ^ k : Nat) : Int) = 10 ^ k := by simp
  omega)
theorem dg_mono {u v : Nat} (h : u ≤ v) : dg u ≤ dg v := dg_le (dg_pos v) (Nat.lt_of_le_of_lt h (dg_lt v (Nat.le_refl _)))
theorem dg_mul (u v : Nat) : dg (u * v) ≤ dg u + dg v := by
  refine dg_le (by have := dg_pos u; omega) ?_
  rw [Nat.pow_add]
  exact Nat.mul_lt_mul'' (dg_lt u (Nat.le_refl _)) (dg_lt v (Nat.le_refl _))
theorem dg_add {u v k : Nat} (hu : dg u ≤ k) (hv : dg v ≤ k) : dg (u + v) ≤ k + 1 := by
  refine dg_le (by omega) ?_
  have h1 := dg_lt u hu
  have h2 := dg_lt v hv
  rw [Nat.pow_succ]
  omega
theorem limbsOf_short (n : Nat) : (limbsOf n).length ≤ dg n := by
  refine limbs_short (limbsOf_is n) (dg n) ?_
  have h := dg_lt n (Nat.le_refl _)
  have h1 : (10 : Nat) ^ dg n ≤ 1000000000 ^ dg n := Nat.pow_le_pow_left (by decide) _
  have e : ((1000000000 ^ dg n : Nat) : Int) = BB ^ dg n := by simp [BB]
  omega
theorem digErr_vals : ∀ (l : List Int) (e : Int), digErr l e = e ∧ asc l ∨ digErr l e = 5 ∧ ¬ asc l
  | [], e => .inl ⟨rfl, fun c hc => by simp at hc⟩
  | c :: r, e => by
    simp only [digErr]
    split
    · exact .inr ⟨rfl, fun h => by have := h c (by simp); omega⟩
    · split
      · exact .inr ⟨rfl, fun h => by have := h c (by simp); omega⟩
      · rcases digErr_vals r e with ⟨h1, h2⟩ | ⟨h1, h2⟩
        · exact .inl ⟨h1, asc_cons (by omega) h2⟩
        · exact .inr ⟨h1, fun h => h2 fun x hx => h x (by simp [hx])⟩
theorem natErr_cases (s : ByteArray) : (∃ n, s = natText n ∧ natErr s = if dg n > 2000 then 2 else 0) ∨ (natErr s = 5 ∧ ∀ n, s ≠ natText n) := by
  by_cases hc : ∃ n, s = natText n
  · obtain ⟨n, rfl⟩ := hc
    left
    refine ⟨n, rfl, ?_⟩
    obtain ⟨h1, h2, h3, h4⟩ := natText_is n
    unfold natErr
    rw [if_neg (by omega)]
    have hz : ¬ (1 < (natText n).size ∧ bt (natText n) 0 = 48) := fun ⟨a, b⟩ => h4 a (by rw [rd_bytesOf]; exact b)
    rw [if_neg hz]
    rcases digErr_vals (bytesOf (natText n)) (tailErr (natText n)) with ⟨e, _⟩ | ⟨_, e⟩
    · rw [e]
      unfold tailErr
      show (if ((dg n : Nat) : Int) > 2000 then (2 : Int) else 0) = _
      by_cases hd : dg n > 2000
      · rw [if_pos hd, if_pos (by omega)]
      · rw [if_neg hd, if_neg (by omega)]
    · exact absurd h1 e
  · right
    refine ⟨?_, fun n hn => hc ⟨n, hn⟩⟩
    unfold natErr
    by_cases h0 : s.size = 0
    · rw [if_pos h0]
    · rw [if_neg h0]
      rcases digErr_vals (bytesOf s) (if 1 < s.size ∧ bt s 0 = 48 then 5 else tailErr s) with ⟨e, ha⟩ | ⟨e, _⟩
      · by_cases hz : 1 < s.size ∧ bt s 0 = 48
        · rw [e, if_pos hz]
        · exfalso
          refine hc ⟨(val 10 (digs (bytesOf s))).toNat, text_eq ⟨ha, ?_, by omega, fun h1 h2 => hz ⟨h1, by rw [← rd_bytesOf]; exact h2⟩⟩⟩
          have := val_nonneg (b := 10) (by decide) (digs_ok ha)
          omega
      · exact e
theorem natErr_text (n : Nat) : natErr (natText n) = if dg n > 2000 then 2 else 0 := by
  rcases natErr_cases (natText n) with ⟨m, hm, h⟩ | ⟨_, h⟩
  · rw [h, natText_inj hm]
  · exact absurd rfl (h n)
end Go.Proofs.YtnjbabkfdcdkbaaGreatDoor.Sem
end
section
/- Natural numbers: contracts by values. -/
set_option linter.unusedVariables false
namespace Go.Proofs.YtnjbabkfdcdkbaaGreatDoor.Lib
open Go Go.Proofs.YtnjbabkfdcdkbaaGreatDoor.Mach Go.Proofs.YtnjbabkfdcdkbaaGreatDoor.ND Go.Proofs.YtnjbabkfdcdkbaaGreatDoorW.PrintWords Go.RowKit Go.Proofs.YtnjbabkfdcdkbaaGreatDoor.Sem Go.Proofs.YtnjbabkfdcdkbaaGreatDoor.NatVal Go.Proofs.YtnjbabkfdcdkbaaGreatDoor.Pure
theorem says_of {β : Type} {f : Nat → Option β} {mk : β → AV} {r : β} {Q : Res} (h : Ev f r) (hq : Q (mk r) []) : says f mk Q := by
  obtain ⟨k, hk⟩ := h.rounds
  exact ⟨k, r, hk, hq⟩
def Bd (n : Nat) : Prop := dg n ≤ 4000000000
def NatI (n : Int) : Prop := 0 ≤ n ∧ n ≤ 9223372036854775807
def checkS (s : ByteArray) (Q : Res) : Prop := s.size ≤ 1000000000000000 ∧ Q (.int .i64 (natErr s)) []
def readS (s : ByteArray) (Q : Res) : Prop := ∃ n : Nat, s = natText n ∧ Bd n ∧ Q (.imm eW (limbsOf n)) []
def textS (l : List Int) (Q : Res) : Prop := ∃ n : Nat, l = limbsOf n ∧ dg n ≤ 9000000000 ∧ Q (.str (natText n)) []
def cmpS (l m : List Int) (Q : Res) : Prop := ∃ u v : Nat, l = limbsOf u ∧ m = limbsOf v ∧ dg u ≤ 9000000000 ∧ Q (.int .i64 (cmpI u v)) []
def addS (l m : List Int) (Q : Res) : Prop := ∃ u v : Nat, l = limbsOf u ∧ m = limbsOf v ∧ dg u ≤ 9000000000 ∧ dg v ≤ 9000000000 ∧ Q (.imm eW (limbsOf (u + v))) []
def subS (l m : List Int) (Q : Res) : Prop := ∃ u v : Nat, l = limbsOf u ∧ m = limbsOf v ∧ dg u ≤ 9000000000 ∧ v ≤ u ∧ Q (.imm eW (limbsOf (u - v))) []
def mulS (l m : List Int) (Q : Res) : Prop := ∃ u v : Nat, l = limbsOf u ∧ m = limbsOf v ∧ dg u ≤ 9000000000 ∧ dg v ≤ 9000000000 ∧ Q (.imm eW (limbsOf (u * v))) []
def divS (l m : List Int) (Q : Res) : Prop := ∃ u v : Nat, l = limbsOf u ∧ m = limbsOf v ∧ dg u ≤ 9000000000 ∧ dg v ≤ 9000000000 ∧ 0 < v ∧ Q (.tup [.imm eW (limbsOf (u / v)), .imm eW (limbsOf (u % v))]) []
def gcdS (l m : List Int) (Q : Res) : Prop := ∃ u v : Nat, l = limbsOf u ∧ m = limbsOf v ∧ dg u ≤ 9000000000 ∧ dg v ≤ 9000000000 ∧ Q (.imm eW (limbsOf (Nat.gcd u v))) []
def ofS (n : Int) (Q : Res) : Prop := NatI n ∧ Q (.imm eW (limbsOf n.toNat)) []
def digitsS (l : List Int) (Q : Res) : Prop := ∃ n : Nat, l = limbsOf n ∧ dg n ≤ 9000000000 ∧ Q (.int .i64 (dg n : Int)) []
def raddS (s t : ByteArray) (Q : Res) : Prop := ∃ u v : Nat, s = natText u ∧ t = natText v ∧ dg u ≤ 10000000000 ∧ dg v ≤ 10000000000 ∧ Q (.str (natText (u + v))) []
def rsubS (s t : ByteArray) (Q : Res) : Prop := ∃ u v : Nat, s = natText u ∧ t = natText v ∧ dg u ≤ 10000000000 ∧ v ≤ u ∧ Q (.str (natText (u - v))) []
def rmulS (s t : ByteArray) (Q : Res) : Prop := ∃ u v : Nat, s = natText u ∧ t = natText v ∧ dg u ≤ 5000000000 ∧ dg v ≤ 5000000000 ∧ Q (.str (natText (u * v))) []
def rdivS (s t : ByteArray) (Q : Res) : Prop := ∃ u v : Nat, s = natText u ∧ t = natText v ∧ dg u ≤ 9000000000 ∧ dg v ≤ 9000000000 ∧ 0 < v ∧ Q (.tup [.str (natText (u / v)), .str (natText (u % v))]) []
def rgcdS (s t : ByteArray) (Q : Res) : Prop := ∃ u v : Nat, s = natText u ∧ t = natText v ∧ dg u ≤ 9000000000 ∧ dg v ≤ 9000000000 ∧ Q (.str (natText (Nat.gcd u v))) []
def rcmpS (s t : ByteArray) (Q : Res) : Prop := ∃ u v : Nat, s = natText u ∧ t = natText v ∧ Q (.int .i64 (cmpI u v)) []
def rintS (n : Int) (Q : Res) : Prop := NatI n ∧ Q (.str (natText n.toNat)) []
theorem check_conS {s : ByteArray} {Q : Res} (h : checkS s Q) : Con Tryz.prog 90 [.str s] Q := ncheck_con (says_of (check_ev s h.1) h.2)
theorem rerr_conS {s : ByteArray} {Q : Res} (h : checkS s Q) : Con Tryz.prog 85 [.str s] Q := rerr_con (says_of (rerr_ev s h.1) h.2)
theorem read_conS {s : ByteArray} {Q : Res} (h : readS s Q) : Con Tryz.prog 84 [.str s] Q := by
  obtain ⟨n, rfl, hb, hq⟩ := h
  have hb' : (natText n).size ≤ 10000000000 := Nat.le_trans hb (by decide)
  obtain ⟨r, h1, h2, _⟩ := read_ev (natText n) (natText_asc n) hb'
  rw [limbs_eq' h2 (natText_is n).2.1] at h1
  exact nread_con (says_of h1 hq)
theorem text_conS {l : List Int} {Q : Res} (h : textS l Q) : Con Tryz.prog 74 [.imm eW l] Q := by
  obtain ⟨n, rfl, hb, hq⟩ := h
  obtain ⟨t, h1, h2, _⟩ := text_ev (limbsOf_is n) (by have := limbsOf_short n; omega)
  rw [text_eq h2] at h1
  exact ntext_con (says_of h1 hq)
theorem cmp_conS {l m : List Int} {Q : Res} (h : cmpS l m Q) : Con Tryz.prog 58 [.imm eW l, .imm eW m] Q := by
  obtain ⟨u, v, rfl, rfl, hb, hq⟩ := h
  have hu := limbsOf_is u
  have hv := limbsOf_is v
  have h1 := cmp_ev (l := limbsOf u) (r := limbsOf v) (by have := limbsOf_short u; omega) hu.2.1 hv.2.1 hu.2.2 hv.2.2
  rw [hu.1, hv.1] at h1
  exact ncmp_con (says_of h1 hq)
theorem add_conS {l m : List Int} {Q : Res} (h : addS l m Q) : Con Tryz.prog 57 [.imm eW l, .imm eW m] Q := by
  obtain ⟨u, v, rfl, rfl, hb, hb', hq⟩ := h
  have hu := limbsOf_is u
  have hv := limbsOf_is v
  obtain ⟨r, h1, h2, _⟩ := add_ev (a := limbsOf u) (b := limbsOf v) (by have := limbsOf_short u; omega) (by have := limbsOf_short v; omega) hu.2.1 hv.2.1 hu.2.2 hv.2.2
  rw [hu.1, hv.1] at h2
  rw [limbs_eq' h2 (by omega : (u : Int) + v = ((u + v : Nat) : Int))] at h1
  exact nadd_con (says_of h1 hq)
theorem sub_conS {l m : List Int} {Q : Res} (h : subS l m Q) : Con Tryz.prog 59 [.imm eW l, .imm eW m] Q := by
  obtain ⟨u, v, rfl, rfl, hb, hle, hq⟩ := h
  have hu := limbsOf_is u
  have hv := limbsOf_is v
  obtain ⟨r, h1, h2, _⟩ := sub_ev (a := limbsOf u) (b := limbsOf v) (by have := limbsOf_short u; omega) hu.2.1 hv.2.1 hv.2.2 (by rw [hu.1, hv.1]; omega)
  rw [hu.1, hv.1] at h2
  rw [limbs_eq' h2 (by omega : (u : Int) - v = ((u - v : Nat) : Int))] at h1
  exact nsub_con (says_of h1 hq)
theorem mul_conS {l m : List Int} {Q : Res} (h : mulS l m Q) : Con Tryz.prog 54 [.imm eW l, .imm eW m] Q := by
  obtain ⟨u, v, rfl, rfl, hb, hb', hq⟩ := h
  obtain ⟨r, h1, h2, _⟩ := mul_ev (limbsOf_is u) (limbsOf_is v) (by have := limbsOf_short u; have := limbsOf_short v; omega)
  rw [limbs_eq' h2 (Int.natCast_mul u v).symm] at h1
  exact nmul_con (says_of h1 hq)
theorem div_conS {l m : List Int} {Q : Res} (h : divS l m Q) : Con Tryz.prog 78 [.imm eW l, .imm eW m] Q := by
  obtain ⟨u, v, rfl, rfl, hb, hb', h0, hq⟩ := h
  obtain ⟨q, r, h1, h2, h3, _⟩ := div_ev (limbsOf_is u) (limbsOf_is v) (by omega) (by have := limbsOf_short u; have := limbsOf_short v; omega)
  rw [limbs_eq' h2 (Int.natCast_ediv u v).symm, limbs_eq' h3 (Int.natCast_emod u v).symm] at h1
  exact ndiv_con (says_of h1 hq)
theorem gcd_conS {l m : List Int} {Q : Res} (h : gcdS l m Q) : Con Tryz.prog 77 [.imm eW l, .imm eW m] Q := by
  obtain ⟨u, v, rfl, rfl, hb, hb', hq⟩ := h
  obtain ⟨r, h1, h2⟩ := gcd_ev (limbsOf_is u) (limbsOf_is v) (by have := limbsOf_short u; omega) (by have := limbsOf_short v; omega)
  rw [limbs_eq h2] at h1
  exact ngcd_con (says_of h1 hq)
theorem of_conS {n : Int} {Q : Res} (h : ofS n Q) : Con Tryz.prog 72 [.int .i64 n] Q := by
  obtain ⟨⟨h0, h9⟩, hq⟩ := h
  obtain ⟨r, h1, h2⟩ := of_ev n.toNat (by omega)
  rw [limbs_eq h2, Int.toNat_of_nonneg h0] at h1
  exact nof_con (says_of h1 hq)
theorem digits_conS {l : List Int} {Q : Res} (h : digitsS l Q) : Con Tryz.prog 79 [.imm eW l] Q := by
  obtain ⟨n, rfl, hb, hq⟩ := h
  obtain ⟨t, h1, h2, _⟩ := text_ev (limbsOf_is n) (by have := limbsOf_short n; omega)
  rw [text_eq h2] at h1
  obtain ⟨k, hk⟩ := h1.rounds
  refine ndigits_con ⟨k, ((natText n).size : Int), ?_, hq⟩
  show (nat_N_Text.f k (limbsOf n)).bind _ = _
  rw [hk]; rfl
theorem radd_conS {s t : ByteArray} {Q : Res} (h : raddS s t Q) : Con Tryz.prog 38 [.str s, .str t] Q := by
  obtain ⟨u, v, rfl, rfl, hb, hb', hq⟩ := h
  obtain ⟨r, h1, h2, _⟩ := radd_ev (natText_is u) (natText_is v) hb hb'
  rw [text_eq' h2 (by omega : (u : Int) + v = ((u + v : Nat) : Int))] at h1
  exact radd_con (says_of h1 hq)
theorem rsub_conS {s t : ByteArray} {Q : Res} (h : rsubS s t Q) : Con Tryz.prog 40 [.str s, .str t] Q := by
  obtain ⟨u, v, rfl, rfl, hb, hle, hq⟩ := h
  obtain ⟨r, h1, h2, _⟩ := rsub_ev (natText_is u) (natText_is v) hb (by omega)
  rw [text_eq' h2 (by omega : (u : Int) - v = ((u - v : Nat) : Int))] at h1
  exact rsub_con (says_of h1 hq)
theorem rmul_conS {s t : ByteArray} {Q : Res} (h : rmulS s t Q) : Con Tryz.prog 36 [.str s, .str t] Q := by
  obtain ⟨u, v, rfl, rfl, hb, hb', hq⟩ := h
  obtain ⟨r, h1, h2, _⟩ := rmul_ev (natText_is u) (natText_is v) (by show dg u + dg v ≤ _; omega)
  rw [text_eq' h2 (Int.natCast_mul u v).symm] at h1
  exact rmul_con (says_of h1 hq)
theorem rdiv_conS {s t : ByteArray} {Q : Res} (h : rdivS s t Q) : Con Tryz.prog 69 [.str s, .str t] Q := by
  obtain ⟨u, v, rfl, rfl, hb, hb', h0, hq⟩ := h
  obtain ⟨z, h1, h2, h3⟩ := rdiv_ev (natText_is u) (natText_is v) (by omega) hb hb'
  obtain ⟨z1, z2⟩ := z
  simp only at h2 h3
  rw [text_eq' h2 (Int.natCast_ediv u v).symm, text_eq' h3 (Int.natCast_emod u v).symm] at h1
  exact rdiv_con (says_of h1 hq)
theorem rgcd_conS {s t : ByteArray} {Q : Res} (h : rgcdS s t Q) : Con Tryz.prog 68 [.str s, .str t] Q := by
  obtain ⟨u, v, rfl, rfl, hb, hb', hq⟩ := h
  obtain ⟨r, h1, h2⟩ := rgcd_ev (natText_is u) (natText_is v) hb hb'
  rw [text_eq h2] at h1
  exact rgcd_con (says_of h1 hq)
theorem rcmp_conS {s t : ByteArray} {Q : Res} (h : rcmpS s t Q) : Con Tryz.prog 39 [.str s, .str t] Q := by
  obtain ⟨u, v, rfl, rfl, hq⟩ := h
  exact rcmp_con ⟨_, rcmp_eq (natText_is u) (natText_is v), hq⟩
theorem rint_conS {n : Int} {Q : Res} (h : rintS n Q) : Con Tryz.prog 17 [.int .i64 n] Q := by
  obtain ⟨⟨h0, h9⟩, hq⟩ := h
  obtain ⟨r, h1, h2, _⟩ := ratint_ev n.toNat (by omega)
  rw [text_eq h2, Int.toNat_of_nonneg h0] at h1
  exact rintp_con ⟨h0, says_of h1 hq⟩
end Go.Proofs.YtnjbabkfdcdkbaaGreatDoor.Lib
end
section
/- Texts: the first byte taken away, and the parts before and behind a stroke: contracts by values. -/
set_option linter.unusedVariables false
namespace Go.Proofs.YtnjbabkfdcdkbaaGreatDoor.Lib
open Go Go.Proofs.YtnjbabkfdcdkbaaGreatDoor.Mach
def preB (s : ByteArray) : Bool := bif decide (1 ≤ s.size) then (s.extract 0 1).toList == (ByteArray.mk #[45]).toList else false
def preR (s : ByteArray) : ByteArray := bif preB s then s.extract 1 s.size else s
def preS (s t : ByteArray) (Q : Res) : Prop := t = ⟨#[45]⟩ ∧ s.size ≤ 1000000000000000000 ∧ Q (.tup [.str (preR s), .bool (preB s)]) []
def cutI (s : ByteArray) : Bool := decide (0 ≤ firstIdx s 47)
def cutA (s : ByteArray) : ByteArray := bif cutI s then s.extract 0 (firstIdx s 47).toNat else s
def cutB (s : ByteArray) : ByteArray := bif cutI s then s.extract ((firstIdx s 47).toNat + 1) s.size else ⟨#[]⟩
def cutS (s t : ByteArray) (Q : Res) : Prop := t = ⟨#[47]⟩ ∧ s.size ≤ 1000000000000000000 ∧ Q (.tup [.str (cutA s), .str (cutB s), .bool (cutI s)]) []
end Go.Proofs.YtnjbabkfdcdkbaaGreatDoor.Lib
end
section
/- Equations of functions (printed). -/
namespace Go.Proofs.YtnjbabkfdcdkbaaGreatDoor.Mach
open Go Go.Proofs.YtnjbabkfdcdkbaaGreatDoor Go.Proofs.YtnjbabkfdcdkbaaGreatDoor.Lib
set_option linter.unusedVariables false
def spre_live : List (Nat × List Nat) := []
def spre_nils : List (Nat × ETy) := []
set_option maxRecDepth 1000000 in
theorem spre_E (s : ByteArray) (t : ByteArray) (n0 : Nat) (K : AV → List HObj → Prop) :
    execN tab (mixE tab con0 [91, 97] 400) (maskN spre_live spre_nils (GoodL Tryz.prog n0 82 K)) (finK tab (fnT Tryz.f82).res K) 400 [.code (fnT Tryz.f82).body] ⟨initEnv (fnT Tryz.f82).n [AV.str s, AV.str t], []⟩ =
    (bif decide ((↑s.size : Int) ≥ (↑t.size : Int)) then bif decide (0 ≤ (↑t.size : Int)) && decide ((↑t.size : Int) ≤ (↑s.size : Int)) then bif !bif true then (s.extract 0 (↑t.size : Int).toNat).toList == t.toList else false then K (AV.tup [AV.str s, AV.bool false]) [] else bif decide (0 ≤ (↑t.size : Int)) && decide ((↑t.size : Int) ≤ (↑s.size : Int)) && decide ((↑s.size : Int) ≤ (↑s.size : Int)) then K (AV.tup [AV.str (s.extract (↑t.size : Int).toNat (↑s.size : Int).toNat), AV.bool true]) [] else False else False else K (AV.tup [AV.str s, AV.bool false]) []) := by kernel_rfl
def scut_live : List (Nat × List Nat) := []
def scut_nils : List (Nat × ETy) := []
set_option maxRecDepth 1000000 in
theorem scut_E (s : ByteArray) (t : ByteArray) (n0 : Nat) (K : AV → List HObj → Prop) :
    execN tab (mixE tab con0 [92, 98, 102] 400) (maskN scut_live scut_nils (GoodL Tryz.prog n0 83 K)) (finK tab (fnT Tryz.f83).res K) 400 [.code (fnT Tryz.f83).body] ⟨initEnv (fnT Tryz.f83).n [AV.str s, AV.str t], []⟩ =
    (bif decide ((↑t.size : Int) = 0) then bif decide (0 ≤ IntKind.i64.wrap (0 + (↑t.size : Int))) && decide (IntKind.i64.wrap (0 + (↑t.size : Int)) ≤ (↑s.size : Int)) && decide ((↑s.size : Int) ≤ (↑s.size : Int)) then K (AV.tup [AV.str (s.extract 0 0), AV.str (s.extract (IntKind.i64.wrap (0 + (↑t.size : Int))).toNat (↑s.size : Int).toNat), AV.bool true]) [] else False else bif bif false then true else t.toList == s.toList then bif decide (0 ≤ IntKind.i64.wrap (0 + (↑t.size : Int))) && decide (IntKind.i64.wrap (0 + (↑t.size : Int)) ≤ (↑s.size : Int)) && decide ((↑s.size : Int) ≤ (↑s.size : Int)) then K (AV.tup [AV.str (s.extract 0 0), AV.str (s.extract (IntKind.i64.wrap (0 + (↑t.size : Int))).toNat (↑s.size : Int).toNat), AV.bool true]) [] else False else bif decide ((↑t.size : Int) = 1) then bif decide (0 < (↑t.size : Int)) then bif decide (firstIdx s (↑(t.data.toList.getD 0 0).toNat : Int).toNat.toUInt8 ≥ 0) then bif decide (0 ≤ firstIdx s (↑(t.data.toList.getD 0 0).toNat : Int).toNat.toUInt8) && decide (firstIdx s (↑(t.data.toList.getD 0 0).toNat : Int).toNat.toUInt8 ≤ (↑s.size : Int)) then bif decide (0 ≤ IntKind.i64.wrap (firstIdx s (↑(t.data.toList.getD 0 0).toNat : Int).toNat.toUInt8 + (↑t.size : Int))) && decide (IntKind.i64.wrap (firstIdx s (↑(t.data.toList.getD 0 0).toNat : Int).toNat.toUInt8 + (↑t.size : Int)) ≤ (↑s.size : Int)) && decide ((↑s.size : Int) ≤ (↑s.size : Int)) then K (AV.tup [AV.str (s.extract 0 (firstIdx s (↑(t.data.toList.getD 0 0).toNat : Int).toNat.toUInt8).toNat), AV.str (s.extract (IntKind.i64.wrap (firstIdx s (↑(t.data.toList.getD 0 0).toNat : Int).toNat.toUInt8 + (↑t.size : Int))).toNat (↑s.size : Int).toNat), AV.bool true]) [] else False else False else K (AV.tup [AV.str s, AV.str (ByteArray.mk #[]), AV.bool false]) [] else False else bif decide ((↑t.size : Int) ≥ (↑s.size : Int)) then K (AV.tup [AV.str s, AV.str (ByteArray.mk #[]), AV.bool false]) [] else False) := by kernel_rfl
end Go.Proofs.YtnjbabkfdcdkbaaGreatDoor.Mach
end
section
/- Texts: CutPrefix and Cut: the contracts hold; what they say of texts that are put together. -/
set_option linter.unusedVariables false
set_option linter.unusedSimpArgs false
namespace Go.Proofs.YtnjbabkfdcdkbaaGreatDoor.Lib
open Go Go.Proofs.YtnjbabkfdcdkbaaGreatDoor.Mach
theorem str_ext {s t : ByteArray} (h : s.toList = t.toList) : s = t := by
  rw [ByteArray.toList_eq, ByteArray.toList_eq] at h
  cases s; cases t; simp_all
theorem firstIdx_some {s : ByteArray} {c : UInt8} {i : Nat} (hi : i < s.size) (h : s[i]! = c) (hb : ∀ j, j < i → s[j]! ≠ c) : firstIdx s c = i := by
  unfold firstIdx
  rw [List.find?_range_eq_some.2 ⟨by simpa using h, by simpa using hi, fun j hj => by simpa using hb j hj⟩]
theorem firstIdx_lt (s : ByteArray) (c : UInt8) : -1 ≤ firstIdx s c ∧ firstIdx s c < s.size := by
  unfold firstIdx
  split
  · rename_i i h
    have := (List.find?_range_eq_some.1 h).2.1
    simp at this
    omega
  · omega
theorem at_get (s : ByteArray) (i : Nat) (h : i < s.size) : s[i]! = s.data.toList.getD i default := by
  rw [getElem!_pos s i h, List.getD_eq_getElem?_getD, List.getElem?_eq_getElem (by rw [Array.length_toList]; exact h)]
  rfl
theorem firstIdx_app {a b : ByteArray} {c : UInt8} (h : ∀ x ∈ a.data.toList, x ≠ c) : firstIdx (a ++ (⟨#[c]⟩ ++ b)) c = a.size := by
  have hl : a.data.toList.length = a.size := by rw [Array.length_toList]; rfl
  have hd : (a ++ (⟨#[c]⟩ ++ b)).data.toList = a.data.toList ++ c :: b.data.toList := by simp [ByteArray.data_append]
  refine firstIdx_some ?_ ?_ fun j hj => ?_
  · simp only [ByteArray.size_append, show (ByteArray.mk #[c]).size = 1 from rfl]; omega
  · rw [at_get _ _ (by simp only [ByteArray.size_append, show (ByteArray.mk #[c]).size = 1 from rfl]; omega), hd, List.getD_eq_getElem?_getD, List.getElem?_append_right (by omega)]
    simp [hl]
  · rw [at_get _ _ (by simp only [ByteArray.size_append]; omega), hd, List.getD_eq_getElem?_getD, List.getElem?_append_left (by omega), List.getElem?_eq_getElem (by omega)]
    exact h _ (List.getElem_mem ..)
theorem firstIdx_no {s : ByteArray} {c : UInt8} (h : ∀ x ∈ s.data.toList, x ≠ c) : firstIdx s c = -1 := by
  unfold firstIdx
  rw [List.find?_eq_none.2 fun i hi => by
    have hs : i < s.size := by simpa using hi
    have hl : s.data.toList.length = s.size := by rw [Array.length_toList]; rfl
    rw [at_get _ _ hs, List.getD_eq_getElem?_getD, List.getElem?_eq_getElem (by omega)]
    intro hc
    exact h _ (List.getElem_mem (l := s.data.toList) (n := i) (by omega)) (by simpa using hc)]
theorem app_left (a b : ByteArray) : (a ++ b).extract 0 a.size = a := by
  apply ByteArray.ext
  simp [ByteArray.data_extract]
theorem app_right (a b : ByteArray) : (a ++ b).extract a.size (a ++ b).size = b := by
  apply ByteArray.ext
  have e : a.size = a.data.size := rfl
  have e2 : b.size = b.data.size := rfl
  rw [ByteArray.data_extract, ByteArray.size_append, ByteArray.data_append, Array.extract_append, e, e2, Array.extract_eq_empty_of_le (by omega), Array.empty_append, Nat.sub_self, Nat.add_sub_cancel_left, Array.extract_size]
theorem pre_con {s t : ByteArray} {Q : Res} (h : preS s t Q) : Con Tryz.prog 82 [.str s, .str t] Q := by
  obtain ⟨rfl, hs, hq⟩ := h
  refine conN (gn := fnT Tryz.f82) (by kernel_rfl) con0_ok (inl := [91, 97]) (LT := spre_live) (NT := spre_nils) rfl fun n0 => ?_
  rw [spre_E]
  have hk : ∀ r : ByteArray, ∀ b : Bool, Q (.tup [.str r, .bool b]) [] → resK Q (.tup [.str r, .bool b]) [] := fun r b h => res_plain h rfl rfl
  have z : (ByteArray.mk #[45]).size = 1 := rfl
  rw [z]
  by_cases h1 : 1 ≤ s.size
  · have d1 : decide ((s.size : Int) ≥ ((1 : Nat) : Int)) = true := decide_eq_true (by omega)
    have d2 : decide (0 ≤ ((1 : Nat) : Int)) = true := decide_eq_true (by omega)
    have d3 : decide (((1 : Nat) : Int) ≤ (s.size : Int)) = true := decide_eq_true (by omega)
    have d4 : decide ((s.size : Int) ≤ (s.size : Int)) = true := decide_eq_true (by omega)
    have hb : preB s = ((s.extract 0 1).toList == (ByteArray.mk #[45]).toList) := by unfold preB; rw [decide_eq_true h1]; rfl
    simp only [d1, d2, d3, d4, Bool.and_true, cond_true, Bool.not_true, cond_false, Int.toNat_natCast]
    cases hp : ((s.extract 0 1).toList == (ByteArray.mk #[45]).toList) with
    | true =>
      simp only [cond_true, Bool.not_true, cond_false]
      rw [hp] at hb
      unfold preR at hq
      rw [hb] at hq
      exact hk _ _ hq
    | false =>
      simp only [cond_false, Bool.not_false, cond_true]
      rw [hp] at hb
      unfold preR at hq
      rw [hb] at hq
      exact hk _ _ hq
  · have d1 : decide ((s.size : Int) ≥ ((1 : Nat) : Int)) = false := decide_eq_false (by omega)
    rw [d1]
    have hb : preB s = false := by unfold preB; rw [decide_eq_false h1]; rfl
    unfold preR at hq
    rw [hb] at hq
    exact hk _ _ hq
theorem cut_con {s t : ByteArray} {Q : Res} (h : cutS s t Q) : Con Tryz.prog 83 [.str s, .str t] Q := by
  obtain ⟨rfl, hs, hq⟩ := h
  refine conN (gn := fnT Tryz.f83) (by kernel_rfl) con0_ok (inl := [92, 98, 102]) (LT := scut_live) (NT := scut_nils) rfl fun n0 => ?_
  rw [scut_E]
  have hk : ∀ r u : ByteArray, ∀ b : Bool, Q (.tup [.str r, .str u, .bool b]) [] → resK Q (.tup [.str r, .str u, .bool b]) [] := fun r u b h => res_plain h rfl rfl
  have z : (ByteArray.mk #[47]).size = 1 := rfl
  have z47 : (((ByteArray.mk #[47]).data.toList.getD 0 0).toNat : Int).toNat.toUInt8 = 47 := by decide
  rw [z47, z]
  have hi := firstIdx_lt s 47
  by_cases he : s = ⟨#[47]⟩
  · subst he
    have e1 : firstIdx ⟨#[47]⟩ 47 = 0 := firstIdx_some (i := 0) (by decide) (by decide) (fun j h => by omega)
    have e2 : cutI ⟨#[47]⟩ = true := by unfold cutI; rw [e1]; rfl
    unfold cutA cutB at hq
    rw [e2, e1] at hq
    have w1 : IntKind.i64.wrap (0 + ((1 : Nat) : Int)) = 1 := by decide
    rw [w1]
    refine bif_neg (by omega) ?_
    refine bif_t (by simp) ?_
    refine bif_t (by rw [z]; rfl) ?_
    exact hk _ _ _ hq
  · have hne : ((ByteArray.mk #[47]).toList == s.toList) = false := beq_eq_false_iff_ne.2 fun h => he (str_ext h.symm)
    rw [hne]
    refine bif_neg (by omega) ?_
    refine bif_f (by simp) ?_
    refine bif_pos (by omega) (bif_pos (by omega) ?_)
    unfold cutA cutB cutI at hq
    by_cases h0 : 0 ≤ firstIdx s 47
    · rw [decide_eq_true h0] at hq
      have w1 : IntKind.i64.wrap (firstIdx s 47 + ((1 : Nat) : Int)) = ((((firstIdx s 47).toNat + 1 : Nat)) : Int) := by rw [wr (by omega) (by omega)]; omega
      rw [w1]
      refine bif_pos (by omega) ?_
      refine bif_and (bif_pos (by omega) (bif_pos (by omega) ?_))
      refine bif_and (bif_and (bif_pos (by omega) (bif_pos (by omega) (bif_pos (by omega) ?_))))
      simp only [Int.toNat_natCast]
      exact hk _ _ _ hq
    · rw [decide_eq_false h0] at hq
      refine bif_neg (by omega) ?_
      exact hk _ _ _ hq
end Go.Proofs.YtnjbabkfdcdkbaaGreatDoor.Lib
end
section
/- Rational numbers: their canonical texts; sums, products, quotients by numerators and denominators. -/
set_option linter.unusedSimpArgs false
set_option linter.unusedVariables false
namespace Go.Proofs.YtnjbabkfdcdkbaaGreatDoor.Sem
open Go Go.RowKit Go.Proofs.YtnjbabkfdcdkbaaGreatDoorW.PrintWords Go.Proofs.YtnjbabkfdcdkbaaGreatDoor.Aid Go.Proofs.YtnjbabkfdcdkbaaGreatDoor.NatVal Go.Proofs.YtnjbabkfdcdkbaaGreatDoor.Pure
def sg (neg : Bool) (u : Nat) : Int := if neg = true then -(u : Int) else u
theorem sg_abs (neg : Bool) (u : Nat) : (sg neg u).natAbs = u := by cases neg <;> simp [sg]
def mkq (neg : Bool) (u v : Nat) : Rat := mkRat (sg neg u) v
theorem mkq_abs {neg : Bool} {u v : Nat} (hv : 0 < v) : (mkq neg u v).num.natAbs = u / Nat.gcd u v := by
  unfold mkq
  rw [Rat.num_mkRat, if_neg (by omega), sg_abs, Int.natAbs_ediv_of_dvd]
  · rw [sg_abs, Int.natAbs_natCast, Nat.gcd_comm]
  · exact Int.ofNat_dvd_left.2 (by rw [sg_abs]; exact Nat.gcd_dvd_right v u)
theorem mkq_den {neg : Bool} {u v : Nat} (hv : 0 < v) : (mkq neg u v).den = v / Nat.gcd u v := by
  unfold mkq
  rw [Rat.den_mkRat, if_neg (by omega), sg_abs, Nat.gcd_comm]
theorem mkq_eq_zero {neg : Bool} {u v : Nat} (hv : 0 < v) : mkq neg u v = 0 ↔ u = 0 := by
  unfold mkq
  rw [Rat.mkRat_eq_zero (by omega)]
  have := sg_abs neg u
  omega
theorem mkq_zero (neg : Bool) (v : Nat) : mkq neg 0 v = 0 := by
  have : sg neg 0 = 0 := by cases neg <;> rfl
  unfold mkq
  rw [this, Rat.zero_mkRat]
theorem mkq_neg {neg : Bool} {u v : Nat} (hv : 0 < v) : (mkq neg u v).num < 0 ↔ neg = true ∧ 0 < u := by
  unfold mkq
  rw [Rat.num_mkRat, if_neg (by omega), sg_abs]
  have hg : 0 < Nat.gcd v u := Nat.gcd_pos_of_pos_left u hv
  obtain ⟨w, hw⟩ := Nat.gcd_dvd_right v u
  generalize Nat.gcd v u = g at *
  subst hw
  cases neg with
  | false =>
    simp only [sg, Bool.false_eq_true, if_false, false_and, iff_false, Int.not_lt]
    exact Int.ediv_nonneg (by omega) (by omega)
  | true =>
    simp only [sg, if_true, true_and]
    rw [Int.natCast_mul, ← Int.mul_neg, Int.mul_ediv_cancel_left _ (by omega)]
    constructor
    · intro h; exact Nat.mul_pos hg (by omega)
    · intro h
      have : 0 < w := Nat.pos_of_mul_pos_left h
      omega
theorem mkq_self (q : Rat) : mkq (decide (q.num < 0)) q.num.natAbs q.den = q := by
  unfold mkq
  have : sg (decide (q.num < 0)) q.num.natAbs = q.num := by
    unfold sg
    by_cases h : q.num < 0
    · rw [if_pos (decide_eq_true h)]; omega
    · rw [if_neg (by simpa using h)]; omega
  rw [this, Rat.mkRat_self]
theorem mkq_add (p q : Bool) (n d m f : Nat) (hd : 0 < d) (hf : 0 < f) : mkq p n d + mkq q m f = if p = q then mkq p (n * f + m * d) (d * f) else if m * d ≤ n * f then mkq p (n * f - m * d) (d * f) else mkq q (m * d - n * f) (d * f) := by
  unfold mkq
  rw [Rat.mkRat_add_mkRat _ _ (by omega) (by omega)]
  have e : ∀ (p : Bool) (u w : Nat), sg p u * (w : Int) = sg p (u * w) := fun p u w => by
    cases p <;> simp [sg, Int.neg_mul]
  rw [e, e]
  by_cases hpq : p = q
  · subst hpq
    rw [if_pos rfl]
    congr 1
    cases p <;> simp [sg] <;> omega
  · rw [if_neg hpq]
    split
    · rename_i h
      congr 1
      cases p <;> cases q <;> simp [sg] at hpq ⊢ <;> rw [← Int.natCast_mul, ← Int.natCast_mul] <;> omega
    · rename_i h
      congr 1
      cases p <;> cases q <;> simp [sg] at hpq ⊢ <;> rw [← Int.natCast_mul, ← Int.natCast_mul] <;> omega
theorem mkq_mul (p q : Bool) (n d m f : Nat) : mkq p n d * mkq q m f = mkq (p != q) (n * m) (d * f) := by
  unfold mkq
  rw [Rat.mkRat_mul_mkRat]
  congr 1
  cases p <;> cases q <;> simp [sg, Int.neg_mul, Int.mul_neg]
theorem mkq_opp (p : Bool) (n d : Nat) : -mkq p n d = mkq (!p) n d := by
  unfold mkq
  rw [Rat.neg_mkRat]
  congr 1
  cases p <;> simp [sg]
theorem mkq_quo (p q : Bool) (n d m f : Nat) (hd : 0 < d) (hm : 0 < m) (hf : 0 < f) : mkq p n d / mkq q m f = mkq (p != q) (n * f) (d * m) := by
  have hy : mkq q m f ≠ 0 := fun h => by have := (mkq_eq_zero hf).1 h; omega
  have h1 : mkq (p != q) (n * f) (d * m) * mkq q m f = mkq p n d := by
    rw [mkq_mul, show ((p != q) != q) = p by cases p <;> cases q <;> rfl]
    unfold mkq
    have e : sg p (n * f * m) = sg p n * ((f * m : Nat) : Int) := by cases p <;> simp [sg, Int.neg_mul, Int.mul_assoc]
    rw [e, show d * m * f = d * (f * m) by rw [Nat.mul_assoc, Nat.mul_comm m f]]
    exact Rat.mkRat_mul_right (Nat.mul_ne_zero (by omega) (by omega))
  rw [Rat.div_def, ← h1, Rat.mul_assoc, Rat.mul_inv_cancel _ hy, Rat.mul_one]
theorem mkq_norm (neg : Bool) (u v g : Nat) (hg : 0 < g) (hu : g ∣ u) (hv : g ∣ v) : mkq neg (u / g) (v / g) = mkq neg u v := by
  obtain ⟨a, rfl⟩ := hu
  obtain ⟨b, rfl⟩ := hv
  rw [Nat.mul_div_cancel_left _ hg, Nat.mul_div_cancel_left _ hg]
  unfold mkq
  have e : sg neg (g * a) = (g : Int) * sg neg a := by cases neg <;> simp [sg, Int.mul_neg]
  rw [e, Rat.mkRat_mul_left (by omega)]
noncomputable def szN (q : Rat) : Nat := dg q.num.natAbs
noncomputable def szD (q : Rat) : Nat := dg q.den
theorem szN_mkq {neg : Bool} {u v : Nat} (hv : 0 < v) : szN (mkq neg u v) ≤ dg u := by
  unfold szN
  rw [mkq_abs hv]
  exact dg_mono (Nat.div_le_self _ _)
theorem szD_mkq {neg : Bool} {u v : Nat} (hv : 0 < v) : szD (mkq neg u v) ≤ dg v := by
  unfold szD
  rw [mkq_den hv]
  exact dg_mono (Nat.div_le_self _ _)
theorem den_pos (q : Rat) : 0 < q.den := Nat.pos_of_ne_zero q.den_nz
noncomputable def rt (neg : Bool) (u v : Nat) : ByteArray := (bif neg then ⟨#[45]⟩ else ⟨#[]⟩) ++ natText u ++ (if v = 1 then ⟨#[]⟩ else ⟨#[47]⟩ ++ natText v)
noncomputable def ratText (q : Rat) : ByteArray := rt (decide (q.num < 0)) q.num.natAbs q.den
theorem rt_bytes (neg : Bool) (u v : Nat) : bytesOf (rt neg u v) = (bif neg then [45] else []) ++ bytesOf (natText u) ++ (if v = 1 then [] else 47 :: bytesOf (natText v)) := by
  unfold rt
  rw [bytesOf_append, bytesOf_append]
  congr 1
  · congr 1
    cases neg <;> rfl
  · split
    · rfl
    · rw [bytesOf_append]; rfl
theorem ratText_mkq {neg : Bool} {u v : Nat} (hv : 0 < v) (hu : 0 < u) : ratText (mkq neg u v) = rt neg (u / Nat.gcd u v) (v / Nat.gcd u v) := by
  unfold ratText
  rw [mkq_abs hv, mkq_den hv]
  congr 1
  have := mkq_neg (neg := neg) hv (u := u)
  cases neg
  · simp only [Bool.false_eq_true, false_and, iff_false] at this
    exact decide_eq_false this
  · exact decide_eq_true (this.2 ⟨rfl, hu⟩)
theorem ratText_nat (n : Nat) : ratText (n : Rat) = natText n := by
  apply bytes_ext
  unfold ratText
  rw [rt_bytes]
  have : ¬ ((n : Int) < 0) := by omega
  simp [Rat.num_natCast, Rat.den_natCast, this]
theorem ratText_zero : ratText 0 = ⟨#[48]⟩ := (ratText_nat 0).trans natText_zero
def sgn (q : Rat) : Int := if q.num = 0 then 0 else if q.num < 0 then -1 else 1
noncomputable def numOf (s : ByteArray) : Nat := (val 10 (digs (bytesOf s))).toNat
theorem numOf_text (n : Nat) : numOf (natText n) = n := by
  unfold numOf
  rw [(natText_is n).2.1, Int.toNat_natCast]
structure QV (z : Bool × List Int × List Int) (q : Rat) : Prop where
  neg : z.1 = decide (q.num < 0)
  num : z.2.1 = limbsOf q.num.natAbs
  den : z.2.2 = limbsOf q.den ∨ (z.2.2 = [] ∧ q.den = 1)
theorem QV.zero : QV (false, [], []) 0 := ⟨rfl, limbsOf_zero.symm, .inr ⟨rfl, rfl⟩⟩
theorem QV.nil {z : Bool × List Int × List Int} {q : Rat} (h : QV z q) : z.2.1.length = 0 ↔ q = 0 := by
  rw [h.num, limbsOf_len, Int.natAbs_eq_zero, Rat.num_eq_zero]
theorem QV.of {z : Bool × List Int × List Int} {q : Rat} (h : QV z q) : mkq z.1 q.num.natAbs q.den = q := by rw [h.neg, mkq_self]
theorem QV.make {neg : Bool} {u v : Nat} (hu : 0 < u) (hv : 0 < v) (hg : Nat.gcd u v = 1) : QV (neg, limbsOf u, limbsOf v) (mkq neg u v) := by
  refine ⟨?_, by rw [mkq_abs hv, hg, Nat.div_one], .inl (by rw [mkq_den hv, hg, Nat.div_one])⟩
  have := mkq_neg (neg := neg) hv (u := u)
  cases neg
  · simp only [Bool.false_eq_true, false_and, iff_false] at this
    exact (decide_eq_false this).symm
  · exact (decide_eq_true (this.2 ⟨rfl, hu⟩)).symm
end Go.Proofs.YtnjbabkfdcdkbaaGreatDoor.Sem
end
section
/- Package rat and its reference: contracts by values. -/
set_option linter.unusedVariables false
namespace Go.Proofs.YtnjbabkfdcdkbaaGreatDoor.Lib
open Go Go.Proofs.YtnjbabkfdcdkbaaGreatDoor.Mach Go.Proofs.YtnjbabkfdcdkbaaGreatDoorW.PrintWords Go.Proofs.YtnjbabkfdcdkbaaGreatDoor.Sem Go.Proofs.YtnjbabkfdcdkbaaGreatDoor.Pure
abbrev QT : Type := Bool × List Int × List Int
def getQ : AV → Option QT
  | .agg cs => (match cs with
    | [b, n, d] => (match asB b, getRow eW n, getRow eW d with | some b, some n, some d => some (b, n, d) | _, _, _ => none)
    | _ => none)
  | _ => none
def qa (z : QT) : AV := .agg [.bool z.1, .imm eW z.2.1, .imm eW z.2.2]
theorem row_ok {e : ETy} {x : AV} {l : List e.D} (h : getRow e x = some l) {c : Ctx} {w : World} {v : Value} (hx : AVR c w x v) : AVR c w (.imm e l) v := (vRow e).ok (x := x) (a := l) h hx
theorem asB_eq {x : AV} {b : Bool} (h : asB x = some b) : x = .bool b := by
  unfold asB at h
  split at h
  · cases h; rfl
  · cases h
def vQ : View QT := ⟨getQ, qa, fun {x a} h {c w v} hx => by
  unfold getQ at h
  split at h
  · split at h
    · rename_i cs b n d
      split at h
      · rename_i h1 h2 h3
        cases h
        rw [asB_eq h1] at hx
        cases hx with
        | agg hl u q1 q2 =>
          refine .agg (by simpa using hl) u (fun j y hy => ?_) (fun j y hy => ?_)
          · match j, hy with
            | 0, hy => exact q1 0 _ rfl
            | 1, hy => exact q1 1 _ rfl
            | 2, hy => exact q1 2 _ rfl
          · match j, hy with
            | 0, hy => cases hy; exact q2 0 _ rfl
            | 1, hy => cases hy; exact row_ok h2 (q2 1 _ rfl)
            | 2, hy => cases hy; exact row_ok h3 (q2 2 _ rfl)
      · cases h
    · cases h
  · cases h⟩
def Sz (k : Nat) (q : Rat) : Prop := szN q ≤ k ∧ szD q ≤ k
def wholeS (z : QT) (Q : Res) : Prop := ∃ q, QV z q ∧ Q (.imm eW (limbsOf q.den)) []
def lowS (neg : Bool) (n d : List Int) (Q : Res) : Prop := ∃ u v : Nat, n = limbsOf u ∧ d = limbsOf v ∧ 0 < v ∧ dg u ≤ 9000000000 ∧ dg v ≤ 9000000000 ∧ ∀ z, QV z (mkq neg u v) → Q (qa z) []
def inS (s : ByteArray) (Q : Res) : Prop := ∃ q, s = ratText q ∧ Sz 4000000000 q ∧ ∀ z, QV z q → Q (qa z) []
def outS (z : QT) (Q : Res) : Prop := ∃ q, QV z q ∧ Sz 9000000000 q ∧ Q (.str (ratText q)) []
noncomputable def fitV (q : Rat) : Int := if szN q > 2000 ∨ szD q > 2000 then 2 else 0
def fitS (z : QT) (Q : Res) : Prop := ∃ q, QV z q ∧ Sz 9000000000 q ∧ Q (.int .i64 (fitV q)) []
noncomputable def toldV (q : Rat) : ByteArray := if fitV q = 0 then ratText q else ⟨#[]⟩
def toldS (z : QT) (Q : Res) : Prop := ∃ q, QV z q ∧ Sz 9000000000 q ∧ Q (.tup [.str (toldV q), .int .i64 (fitV q)]) []
def signS (z : QT) (Q : Res) : Prop := ∃ q, QV z q ∧ Q (.int .i64 (sgn q)) []
def negS (z : QT) (Q : Res) : Prop := ∃ q, QV z q ∧ ∀ r, QV r (-q) → Q (qa r) []
def addQ (z w : QT) (Q : Res) : Prop := ∃ x y, QV z x ∧ QV w y ∧ Sz 4000000000 x ∧ Sz 4000000000 y ∧ ∀ r, QV r (x + y) → Q (qa r) []
def subQ (z w : QT) (Q : Res) : Prop := ∃ x y, QV z x ∧ QV w y ∧ Sz 4000000000 x ∧ Sz 4000000000 y ∧ ∀ r, QV r (x - y) → Q (qa r) []
def quoQ (z w : QT) (Q : Res) : Prop := ∃ x y, QV z x ∧ QV w y ∧ Sz 4000000000 x ∧ Sz 4000000000 y ∧ ∀ r, QV r (x / y) → Q (qa r) []
def cmpQ (z w : QT) (Q : Res) : Prop := ∃ x y, QV z x ∧ QV w y ∧ Sz 4000000000 x ∧ Sz 4000000000 y ∧ Q (.int .i64 (sgn (x - y))) []
def I64 (n : Int) : Prop := -9223372036854775808 ≤ n ∧ n ≤ 9223372036854775807
noncomputable def ratErr (s : ByteArray) : Int :=
  if natErr (cutA (preR s)) = 5 ∨ (cutI (preR s) = true ∧ natErr (cutB (preR s)) = 5) ∨ (preB s = true ∧ cutA (preR s) = zeroS) then 5
  else if natErr (cutA (preR s)) ≠ 0 ∨ (cutI (preR s) = true ∧ natErr (cutB (preR s)) ≠ 0) then 2
  else if cutI (preR s) = true ∧ (cutB (preR s) = zeroS ∨ cutB (preR s) = ⟨#[49]⟩ ∨ Nat.gcd (numOf (cutA (preR s))) (numOf (cutB (preR s))) ≠ 1) then 3 else 0
noncomputable def ratOf (s : ByteArray) : Rat := mkq (preB s) (numOf (cutA (preR s))) (if cutI (preR s) = true then numOf (cutB (preR s)) else 1)
noncomputable def ratErrs : List ByteArray → Int
  | [] => 0
  | s :: l => if ratErr s = 0 then ratErrs l else ratErr s
def Tx (s : ByteArray) : Prop := s.size ≤ 1000000000000000
def rcheckS (s : ByteArray) (Q : Res) : Prop := Tx s ∧ Q (.int .i64 (ratErr s)) []
def TxL (l : List ByteArray) : Prop := l.length ≤ 1000000000000000 ∧ ∀ s ∈ l, Tx s
def rchecksS (l : List ByteArray) (Q : Res) : Prop := TxL l ∧ Q (.int .i64 (ratErrs l)) []
def I64m (n : Int) : Prop := -9223372036854775808 < n ∧ n ≤ 9223372036854775807
def intQ (n : Int) (Q : Res) : Prop := I64m n ∧ ∀ r, QV r (n : Rat) → Q (qa r) []
def partsS (s : ByteArray) (Q : Res) : Prop := ∃ q, s = ratText q ∧ Sz 9000000000 q ∧ Q (.tup [.bool (decide (q.num < 0)), .str (natText q.num.natAbs), .str (natText q.den)]) []
def canonS (neg : Bool) (n d : ByteArray) (Q : Res) : Prop := ∃ u v : Nat, n = natText u ∧ d = natText v ∧ 0 < v ∧ dg u ≤ 9000000000 ∧ dg v ≤ 9000000000 ∧ Q (.str (ratText (mkq neg u v))) []
def xneg (s : ByteArray) (Q : Res) : Prop := ∃ q, s = ratText q ∧ Sz 4000000000 q ∧ Q (.str (ratText (-q))) []
def xadd (s t : ByteArray) (Q : Res) : Prop := ∃ x y, s = ratText x ∧ t = ratText y ∧ Sz 4000000000 x ∧ Sz 4000000000 y ∧ Q (.str (ratText (x + y))) []
def xsub (s t : ByteArray) (Q : Res) : Prop := ∃ x y, s = ratText x ∧ t = ratText y ∧ Sz 4000000000 x ∧ Sz 4000000000 y ∧ Q (.str (ratText (x - y))) []
def xdiv (s t : ByteArray) (Q : Res) : Prop := ∃ x y, s = ratText x ∧ t = ratText y ∧ Sz 4000000000 x ∧ Sz 4000000000 y ∧ y ≠ 0 ∧ Q (.str (ratText (x / y))) []
def xsign (s : ByteArray) (Q : Res) : Prop := ∃ q, s = ratText q ∧ Sz 9000000000 q ∧ Q (.int .i64 (sgn q)) []
def xint (n : Int) (Q : Res) : Prop := I64 n ∧ Q (.str (ratText (n : Rat))) []
noncomputable def conQ1 : FuncId → List AV → Res → Prop := tableC [(72, c1 vI ofS), (77, c2 vW vW gcdS), (58, c2 vW vW cmpS), (78, c2 vW vW divS), (57, c2 vW vW addS), (59, c2 vW vW subS), (54, c2 vW vW mulS), (74, c1 vW textS), (79, c1 vW digitsS), (84, c1 vS readS), (90, c1 vS checkS), (82, c2 vS vS preS), (83, c2 vS vS cutS)]
noncomputable def conQ2 : FuncId → List AV → Res → Prop := tableC [(72, c1 vI ofS), (77, c2 vW vW gcdS), (58, c2 vW vW cmpS), (78, c2 vW vW divS), (57, c2 vW vW addS), (59, c2 vW vW subS), (54, c2 vW vW mulS), (74, c1 vW textS), (79, c1 vW digitsS), (55, c1 vQ wholeS), (56, c3 vB vW vW lowS)]
noncomputable def conQ3 : FuncId → List AV → Res → Prop := tableC [(26, c2 vQ vQ addQ), (60, c1 vQ negS), (44, c1 vQ signS), (49, c1 vQ outS), (61, c1 vQ fitS)]
noncomputable def conQ3b : FuncId → List AV → Res → Prop := tableC [(28, c2 vQ vQ subQ), (44, c1 vQ signS)]
noncomputable def conQ4 : FuncId → List AV → Res → Prop := tableC [(81, c1 vS rcheckS)]
noncomputable def conX1 : FuncId → List AV → Res → Prop := tableC [(85, c1 vS checkS), (39, c2 vS vS rcmpS), (38, c2 vS vS raddS), (40, c2 vS vS rsubS), (36, c2 vS vS rmulS), (69, c2 vS vS rdivS), (68, c2 vS vS rgcdS)]
noncomputable def conX2 : FuncId → List AV → Res → Prop := tableC [(39, c2 vS vS rcmpS), (38, c2 vS vS raddS), (40, c2 vS vS rsubS), (36, c2 vS vS rmulS), (69, c2 vS vS rdivS), (68, c2 vS vS rgcdS), (35, c1 vS partsS), (37, c3 vB vS vS canonS)]
noncomputable def conX3 : FuncId → List AV → Res → Prop := tableC [(41, c1 vS xneg), (11, c2 vS vS xadd), (73, c1 vS rcheckS), (17, c1 vI rintS)]
end Go.Proofs.YtnjbabkfdcdkbaaGreatDoor.Lib
end
section
/- Equations of functions (printed). -/
namespace Go.Proofs.YtnjbabkfdcdkbaaGreatDoor.Mach
open Go Go.Proofs.YtnjbabkfdcdkbaaGreatDoor Go.Proofs.YtnjbabkfdcdkbaaGreatDoor.Lib
set_option linter.unusedVariables false
def qwhole_live : List (Nat × List Nat) := []
def qwhole_nils : List (Nat × ETy) := []
set_option maxRecDepth 1000000 in
theorem qwhole_E (zb : Bool) (zn : List Int) (zd : List Int) (n0 : Nat) (K : AV → List HObj → Prop) :
    execN tab (mixE tab conQ1 [] 400) (maskN qwhole_live qwhole_nils (GoodL Tryz.prog n0 55 K)) (finK tab (fnT Tryz.f55).res K) 400 [.code (fnT Tryz.f55).body] ⟨initEnv (fnT Tryz.f55).n [AV.agg [AV.bool zb, AV.imm (ETy.one (CTy.int IntKind.u32)) zn, AV.imm (ETy.one (CTy.int IntKind.u32)) zd]], []⟩ =
    (bif decide ((↑zd.length : Int) = 0) then NatI 1 ∧ K (AV.imm (ETy.one (CTy.int IntKind.u32)) (Sem.limbsOf 1)) [HObj.box [AV.bool zb, AV.imm (ETy.one (CTy.int IntKind.u32)) zn, AV.imm (ETy.one (CTy.int IntKind.u32)) zd]] else K (AV.imm (ETy.one (CTy.int IntKind.u32)) zd) [HObj.box [AV.bool zb, AV.imm (ETy.one (CTy.int IntKind.u32)) zn, AV.imm (ETy.one (CTy.int IntKind.u32)) zd]]) := by kernel_rfl
def qlow_live : List (Nat × List Nat) := []
def qlow_nils : List (Nat × ETy) := []
set_option maxRecDepth 1000000 in
theorem qlow_E (neg : Bool) (n : List Int) (d : List Int) (n0 : Nat) (K : AV → List HObj → Prop) :
    execN tab (mixE tab conQ1 [] 400) (maskN qlow_live qlow_nils (GoodL Tryz.prog n0 56 K)) (finK tab (fnT Tryz.f56).res K) 400 [.code (fnT Tryz.f56).body] ⟨initEnv (fnT Tryz.f56).n [AV.bool neg, AV.imm (ETy.one (CTy.int IntKind.u32)) n, AV.imm (ETy.one (CTy.int IntKind.u32)) d], []⟩ =
    (bif decide ((↑n.length : Int) = 0) then K (AV.agg [AV.bool false, AV.nils, AV.nils]) [HObj.box [AV.bool false, AV.nils, AV.nils]] else ∃ u v, n = Sem.limbsOf u ∧ d = Sem.limbsOf v ∧ Sem.dg u ≤ 9000000000 ∧ Sem.dg v ≤ 9000000000 ∧ NatI 1 ∧ ∃ u_1 v_1, Sem.limbsOf (u.gcd v) = Sem.limbsOf u_1 ∧ Sem.limbsOf 1 = Sem.limbsOf v_1 ∧ Sem.dg u_1 ≤ 9000000000 ∧ bif decide (Pure.cmpI (↑u_1 : Int) (↑v_1 : Int) > 0) then ∃ u_2 v_2, n = Sem.limbsOf u_2 ∧ Sem.limbsOf (u.gcd v) = Sem.limbsOf v_2 ∧ Sem.dg u_2 ≤ 9000000000 ∧ Sem.dg v_2 ≤ 9000000000 ∧ 0 < v_2 ∧ ∃ u_3 v_3, d = Sem.limbsOf u_3 ∧ Sem.limbsOf (u.gcd v) = Sem.limbsOf v_3 ∧ Sem.dg u_3 ≤ 9000000000 ∧ Sem.dg v_3 ≤ 9000000000 ∧ 0 < v_3 ∧ K (AV.agg [AV.bool neg, AV.imm (ETy.one (CTy.int IntKind.u32)) (Sem.limbsOf (u_2 / v_2)), AV.imm (ETy.one (CTy.int IntKind.u32)) (Sem.limbsOf (u_3 / v_3))]) [HObj.box [AV.bool neg, AV.imm (ETy.one (CTy.int IntKind.u32)) (Sem.limbsOf (u_2 / v_2)), AV.imm (ETy.one (CTy.int IntKind.u32)) (Sem.limbsOf (u_3 / v_3))]] else K (AV.agg [AV.bool neg, AV.imm (ETy.one (CTy.int IntKind.u32)) n, AV.imm (ETy.one (CTy.int IntKind.u32)) d]) [HObj.box [AV.bool neg, AV.imm (ETy.one (CTy.int IntKind.u32)) n, AV.imm (ETy.one (CTy.int IntKind.u32)) d]]) := by kernel_rfl
def qin_live : List (Nat × List Nat) := []
def qin_nils : List (Nat × ETy) := []
set_option maxRecDepth 1000000 in
theorem qin_E (s : ByteArray) (n0 : Nat) (K : AV → List HObj → Prop) :
    execN tab (mixE tab conQ1 [] 400) (maskN qin_live qin_nils (GoodL Tryz.prog n0 71 K)) (finK tab (fnT Tryz.f71).res K) 400 [.code (fnT Tryz.f71).body] ⟨initEnv (fnT Tryz.f71).n [AV.str s], []⟩ =
    (ByteArray.mk #[45] = ByteArray.mk #[45] ∧ s.size ≤ 1000000000000000000 ∧ ByteArray.mk #[47] = ByteArray.mk #[47] ∧ (preR s).size ≤ 1000000000000000000 ∧ ∃ n, cutA (preR s) = Sem.natText n ∧ Bd n ∧ NatI 1 ∧ bif cutI (preR s) then ∃ n_1, cutB (preR s) = Sem.natText n_1 ∧ Bd n_1 ∧ K (AV.agg [AV.bool (preB s), AV.imm (ETy.one (CTy.int IntKind.u32)) (Sem.limbsOf n), AV.imm (ETy.one (CTy.int IntKind.u32)) (Sem.limbsOf n_1)]) [HObj.box [AV.bool (preB s), AV.imm (ETy.one (CTy.int IntKind.u32)) (Sem.limbsOf n), AV.imm (ETy.one (CTy.int IntKind.u32)) (Sem.limbsOf n_1)], HObj.box [AV.bool (preB s), AV.imm (ETy.one (CTy.int IntKind.u32)) (Sem.limbsOf n), AV.imm (ETy.one (CTy.int IntKind.u32)) (Sem.limbsOf n_1)]] else K (AV.agg [AV.bool (preB s), AV.imm (ETy.one (CTy.int IntKind.u32)) (Sem.limbsOf n), AV.imm (ETy.one (CTy.int IntKind.u32)) (Sem.limbsOf 1)]) [HObj.box [AV.bool (preB s), AV.imm (ETy.one (CTy.int IntKind.u32)) (Sem.limbsOf n), AV.imm (ETy.one (CTy.int IntKind.u32)) (Sem.limbsOf 1)], HObj.box [AV.bool (preB s), AV.imm (ETy.one (CTy.int IntKind.u32)) (Sem.limbsOf n), AV.imm (ETy.one (CTy.int IntKind.u32)) (Sem.limbsOf 1)]]) := by kernel_rfl
def qout_live : List (Nat × List Nat) := []
def qout_nils : List (Nat × ETy) := []
set_option maxRecDepth 1000000 in
theorem qout_E (zb : Bool) (zn : List Int) (zd : List Int) (n0 : Nat) (K : AV → List HObj → Prop) :
    execN tab (mixE tab conQ2 [] 400) (maskN qout_live qout_nils (GoodL Tryz.prog n0 49 K)) (finK tab (fnT Tryz.f49).res K) 400 [.code (fnT Tryz.f49).body] ⟨initEnv (fnT Tryz.f49).n [AV.agg [AV.bool zb, AV.imm (ETy.one (CTy.int IntKind.u32)) zn, AV.imm (ETy.one (CTy.int IntKind.u32)) zd]], []⟩ =
    (bif decide ((↑zn.length : Int) = 0) then K (AV.str (ByteArray.mk #[48])) [HObj.box [AV.bool zb, AV.imm (ETy.one (CTy.int IntKind.u32)) zn, AV.imm (ETy.one (CTy.int IntKind.u32)) zd]] else ∃ n, zn = Sem.limbsOf n ∧ Sem.dg n ≤ 9000000000 ∧ bif zb then bif decide (1 + (Sem.natText n).size ≤ 9223372036854775807) then ∃ q, Sem.QV (zb, zn, zd) q ∧ ∃ n_1, Sem.limbsOf q.den = Sem.limbsOf n_1 ∧ Sem.dg n_1 ≤ 9000000000 ∧ bif !(Sem.natText n_1).toList == (ByteArray.mk #[49]).toList then bif decide (1 + (Sem.natText n_1).size ≤ 9223372036854775807) then bif decide ((ByteArray.mk #[45] ++ Sem.natText n).size + (ByteArray.mk #[47] ++ Sem.natText n_1).size ≤ 9223372036854775807) then K (AV.str (ByteArray.mk #[45] ++ Sem.natText n ++ (ByteArray.mk #[47] ++ Sem.natText n_1))) [HObj.box [AV.bool zb, AV.imm (ETy.one (CTy.int IntKind.u32)) zn, AV.imm (ETy.one (CTy.int IntKind.u32)) zd]] else False else False else K (AV.str (ByteArray.mk #[45] ++ Sem.natText n)) [HObj.box [AV.bool zb, AV.imm (ETy.one (CTy.int IntKind.u32)) zn, AV.imm (ETy.one (CTy.int IntKind.u32)) zd]] else False else ∃ q, Sem.QV (zb, zn, zd) q ∧ ∃ n_1, Sem.limbsOf q.den = Sem.limbsOf n_1 ∧ Sem.dg n_1 ≤ 9000000000 ∧ bif !(Sem.natText n_1).toList == (ByteArray.mk #[49]).toList then bif decide (1 + (Sem.natText n_1).size ≤ 9223372036854775807) then bif decide ((Sem.natText n).size + (ByteArray.mk #[47] ++ Sem.natText n_1).size ≤ 9223372036854775807) then K (AV.str (Sem.natText n ++ (ByteArray.mk #[47] ++ Sem.natText n_1))) [HObj.box [AV.bool zb, AV.imm (ETy.one (CTy.int IntKind.u32)) zn, AV.imm (ETy.one (CTy.int IntKind.u32)) zd]] else False else False else K (AV.str (Sem.natText n)) [HObj.box [AV.bool zb, AV.imm (ETy.one (CTy.int IntKind.u32)) zn, AV.imm (ETy.one (CTy.int IntKind.u32)) zd]]) := by kernel_rfl
def qfits_live : List (Nat × List Nat) := []
def qfits_nils : List (Nat × ETy) := []
set_option maxRecDepth 1000000 in
theorem qfits_E (zb : Bool) (zn : List Int) (zd : List Int) (n0 : Nat) (K : AV → List HObj → Prop) :
    execN tab (mixE tab conQ2 [] 400) (maskN qfits_live qfits_nils (GoodL Tryz.prog n0 61 K)) (finK tab (fnT Tryz.f61).res K) 400 [.code (fnT Tryz.f61).body] ⟨initEnv (fnT Tryz.f61).n [AV.agg [AV.bool zb, AV.imm (ETy.one (CTy.int IntKind.u32)) zn, AV.imm (ETy.one (CTy.int IntKind.u32)) zd]], []⟩ =
    (∃ n, zn = Sem.limbsOf n ∧ Sem.dg n ≤ 9000000000 ∧ bif decide ((↑(Sem.dg n) : Int) > 2000) then K (AV.int IntKind.i64 2) [HObj.box [AV.bool zb, AV.imm (ETy.one (CTy.int IntKind.u32)) zn, AV.imm (ETy.one (CTy.int IntKind.u32)) zd]] else ∃ n, zd = Sem.limbsOf n ∧ Sem.dg n ≤ 9000000000 ∧ bif bif false then true else decide ((↑(Sem.dg n) : Int) > 2000) then K (AV.int IntKind.i64 2) [HObj.box [AV.bool zb, AV.imm (ETy.one (CTy.int IntKind.u32)) zn, AV.imm (ETy.one (CTy.int IntKind.u32)) zd]] else K (AV.int IntKind.i64 0) [HObj.box [AV.bool zb, AV.imm (ETy.one (CTy.int IntKind.u32)) zn, AV.imm (ETy.one (CTy.int IntKind.u32)) zd]]) := by kernel_rfl
def qtold_live : List (Nat × List Nat) := []
def qtold_nils : List (Nat × ETy) := []
set_option maxRecDepth 1000000 in
theorem qtold_E (zb : Bool) (zn : List Int) (zd : List Int) (n0 : Nat) (K : AV → List HObj → Prop) :
    execN tab (mixE tab conQ3 [] 400) (maskN qtold_live qtold_nils (GoodL Tryz.prog n0 51 K)) (finK tab (fnT Tryz.f51).res K) 400 [.code (fnT Tryz.f51).body] ⟨initEnv (fnT Tryz.f51).n [AV.agg [AV.bool zb, AV.imm (ETy.one (CTy.int IntKind.u32)) zn, AV.imm (ETy.one (CTy.int IntKind.u32)) zd]], []⟩ =
    (∃ q, Sem.QV (zb, zn, zd) q ∧ Sz 9000000000 q ∧ bif !decide (fitV q = 0) then K (AV.tup [AV.str (ByteArray.mk #[]), AV.int IntKind.i64 (fitV q)]) [HObj.box [AV.bool zb, AV.imm (ETy.one (CTy.int IntKind.u32)) zn, AV.imm (ETy.one (CTy.int IntKind.u32)) zd]] else ∃ q, Sem.QV (zb, zn, zd) q ∧ Sz 9000000000 q ∧ K (AV.tup [AV.str (Sem.ratText q), AV.int IntKind.i64 0]) [HObj.box [AV.bool zb, AV.imm (ETy.one (CTy.int IntKind.u32)) zn, AV.imm (ETy.one (CTy.int IntKind.u32)) zd]]) := by kernel_rfl
def qsign_live : List (Nat × List Nat) := []
def qsign_nils : List (Nat × ETy) := []
set_option maxRecDepth 1000000 in
theorem qsign_E (zb : Bool) (zn : List Int) (zd : List Int) (n0 : Nat) (K : AV → List HObj → Prop) :
    execN tab (mixE tab conQ2 [] 400) (maskN qsign_live qsign_nils (GoodL Tryz.prog n0 44 K)) (finK tab (fnT Tryz.f44).res K) 400 [.code (fnT Tryz.f44).body] ⟨initEnv (fnT Tryz.f44).n [AV.agg [AV.bool zb, AV.imm (ETy.one (CTy.int IntKind.u32)) zn, AV.imm (ETy.one (CTy.int IntKind.u32)) zd]], []⟩ =
    (bif decide ((↑zn.length : Int) = 0) then K (AV.int IntKind.i64 0) [HObj.box [AV.bool zb, AV.imm (ETy.one (CTy.int IntKind.u32)) zn, AV.imm (ETy.one (CTy.int IntKind.u32)) zd]] else bif zb then K (AV.int IntKind.i64 (-1)) [HObj.box [AV.bool zb, AV.imm (ETy.one (CTy.int IntKind.u32)) zn, AV.imm (ETy.one (CTy.int IntKind.u32)) zd]] else K (AV.int IntKind.i64 1) [HObj.box [AV.bool zb, AV.imm (ETy.one (CTy.int IntKind.u32)) zn, AV.imm (ETy.one (CTy.int IntKind.u32)) zd]]) := by kernel_rfl
def qneg_live : List (Nat × List Nat) := []
def qneg_nils : List (Nat × ETy) := []
set_option maxRecDepth 1000000 in
theorem qneg_E (zb : Bool) (zn : List Int) (zd : List Int) (n0 : Nat) (K : AV → List HObj → Prop) :
    execN tab (mixE tab conQ2 [] 400) (maskN qneg_live qneg_nils (GoodL Tryz.prog n0 60 K)) (finK tab (fnT Tryz.f60).res K) 400 [.code (fnT Tryz.f60).body] ⟨initEnv (fnT Tryz.f60).n [AV.agg [AV.bool zb, AV.imm (ETy.one (CTy.int IntKind.u32)) zn, AV.imm (ETy.one (CTy.int IntKind.u32)) zd]], []⟩ =
    (bif decide ((↑zn.length : Int) = 0) then K (AV.agg [AV.bool zb, AV.imm (ETy.one (CTy.int IntKind.u32)) zn, AV.imm (ETy.one (CTy.int IntKind.u32)) zd]) [HObj.box [AV.bool zb, AV.imm (ETy.one (CTy.int IntKind.u32)) zn, AV.imm (ETy.one (CTy.int IntKind.u32)) zd], HObj.box [AV.bool zb, AV.imm (ETy.one (CTy.int IntKind.u32)) zn, AV.imm (ETy.one (CTy.int IntKind.u32)) zd]] else K (AV.agg [AV.bool !zb, AV.imm (ETy.one (CTy.int IntKind.u32)) zn, AV.imm (ETy.one (CTy.int IntKind.u32)) zd]) [HObj.box [AV.bool zb, AV.imm (ETy.one (CTy.int IntKind.u32)) zn, AV.imm (ETy.one (CTy.int IntKind.u32)) zd], HObj.box [AV.bool !zb, AV.imm (ETy.one (CTy.int IntKind.u32)) zn, AV.imm (ETy.one (CTy.int IntKind.u32)) zd]]) := by kernel_rfl
def qadd_live : List (Nat × List Nat) := []
def qadd_nils : List (Nat × ETy) := []
set_option maxRecDepth 1000000 in
theorem qadd_E (zb : Bool) (zn : List Int) (zd : List Int) (wb : Bool) (wn : List Int) (wd : List Int) (n0 : Nat) (K : AV → List HObj → Prop) :
    execN tab (mixE tab conQ2 [] 400) (maskN qadd_live qadd_nils (GoodL Tryz.prog n0 26 K)) (finK tab (fnT Tryz.f26).res K) 400 [.code (fnT Tryz.f26).body] ⟨initEnv (fnT Tryz.f26).n [AV.agg [AV.bool zb, AV.imm (ETy.one (CTy.int IntKind.u32)) zn, AV.imm (ETy.one (CTy.int IntKind.u32)) zd], AV.agg [AV.bool wb, AV.imm (ETy.one (CTy.int IntKind.u32)) wn, AV.imm (ETy.one (CTy.int IntKind.u32)) wd]], []⟩ =
    (bif decide ((↑zn.length : Int) = 0) then K (AV.agg [AV.bool wb, AV.imm (ETy.one (CTy.int IntKind.u32)) wn, AV.imm (ETy.one (CTy.int IntKind.u32)) wd]) [HObj.box [AV.bool zb, AV.imm (ETy.one (CTy.int IntKind.u32)) zn, AV.imm (ETy.one (CTy.int IntKind.u32)) zd], HObj.box [AV.bool wb, AV.imm (ETy.one (CTy.int IntKind.u32)) wn, AV.imm (ETy.one (CTy.int IntKind.u32)) wd], HObj.box [AV.bool wb, AV.imm (ETy.one (CTy.int IntKind.u32)) wn, AV.imm (ETy.one (CTy.int IntKind.u32)) wd]]
  else bif decide ((↑wn.length : Int) = 0) then K (AV.agg [AV.bool zb, AV.imm (ETy.one (CTy.int IntKind.u32)) zn, AV.imm (ETy.one (CTy.int IntKind.u32)) zd]) [HObj.box [AV.bool zb, AV.imm (ETy.one (CTy.int IntKind.u32)) zn, AV.imm (ETy.one (CTy.int IntKind.u32)) zd], HObj.box [AV.bool wb, AV.imm (ETy.one (CTy.int IntKind.u32)) wn, AV.imm (ETy.one (CTy.int IntKind.u32)) wd], HObj.box [AV.bool zb, AV.imm (ETy.one (CTy.int IntKind.u32)) zn, AV.imm (ETy.one (CTy.int IntKind.u32)) zd]] else ∃ q, Sem.QV (wb, wn, wd) q ∧ ∃ u v, zn = Sem.limbsOf u ∧ Sem.limbsOf q.den = Sem.limbsOf v ∧ Sem.dg u ≤ 9000000000 ∧ Sem.dg v ≤ 9000000000 ∧ ∃ q, Sem.QV (zb, zn, zd) q ∧ ∃ u_1 v_1, wn = Sem.limbsOf u_1 ∧ Sem.limbsOf q.den = Sem.limbsOf v_1 ∧ Sem.dg u_1 ≤ 9000000000 ∧ Sem.dg v_1 ≤ 9000000000 ∧ ∃ q, Sem.QV (zb, zn, zd) q ∧ ∃ q_1, Sem.QV (wb, wn, wd) q_1 ∧ ∃ u_2 v_2, Sem.limbsOf q.den = Sem.limbsOf u_2 ∧ Sem.limbsOf q_1.den = Sem.limbsOf v_2 ∧ Sem.dg u_2 ≤ 9000000000 ∧ Sem.dg v_2 ≤ 9000000000 ∧ bif zb == wb then ∃ u_3 v_3, Sem.limbsOf (u * v) = Sem.limbsOf u_3 ∧ Sem.limbsOf (u_1 * v_1) = Sem.limbsOf v_3 ∧ Sem.dg u_3 ≤ 9000000000 ∧ Sem.dg v_3 ≤ 9000000000 ∧ ∃ u v, Sem.limbsOf (u_3 + v_3) = Sem.limbsOf u ∧ Sem.limbsOf (u_2 * v_2) = Sem.limbsOf v ∧ 0 < v ∧ Sem.dg u ≤ 9000000000 ∧ Sem.dg v ≤ 9000000000 ∧ ∀ (z : Bool × List Int × List Int), Sem.QV z (Sem.mkq zb u v) → K (AV.agg [AV.bool z.1, AV.imm (ETy.one (CTy.int IntKind.u32)) z.2.1, AV.imm (ETy.one (CTy.int IntKind.u32)) z.2.2]) [HObj.box [AV.bool zb, AV.imm (ETy.one (CTy.int IntKind.u32)) zn, AV.imm (ETy.one (CTy.int IntKind.u32)) zd], HObj.box [AV.bool wb, AV.imm (ETy.one (CTy.int IntKind.u32)) wn, AV.imm (ETy.one (CTy.int IntKind.u32)) wd], HObj.box [AV.bool z.1, AV.imm (ETy.one (CTy.int IntKind.u32)) z.2.1, AV.imm (ETy.one (CTy.int IntKind.u32)) z.2.2]] else ∃ u_3 v_3, Sem.limbsOf (u * v) = Sem.limbsOf u_3 ∧ Sem.limbsOf (u_1 * v_1) = Sem.limbsOf v_3 ∧ Sem.dg u_3 ≤ 9000000000 ∧ bif decide (Pure.cmpI (↑u_3 : Int) (↑v_3 : Int) ≥ 0) then ∃ u_4 v_4, Sem.limbsOf (u * v) = Sem.limbsOf u_4 ∧ Sem.limbsOf (u_1 * v_1) = Sem.limbsOf v_4 ∧ Sem.dg u_4 ≤ 9000000000 ∧ v_4 ≤ u_4 ∧ ∃ u v, Sem.limbsOf (u_4 - v_4) = Sem.limbsOf u ∧ Sem.limbsOf (u_2 * v_2) = Sem.limbsOf v ∧ 0 < v ∧ Sem.dg u ≤ 9000000000 ∧ Sem.dg v ≤ 9000000000 ∧ ∀ (z : Bool × List Int × List Int), Sem.QV z (Sem.mkq zb u v) → K (AV.agg [AV.bool z.1, AV.imm (ETy.one (CTy.int IntKind.u32)) z.2.1, AV.imm (ETy.one (CTy.int IntKind.u32)) z.2.2]) [HObj.box [AV.bool zb, AV.imm (ETy.one (CTy.int IntKind.u32)) zn, AV.imm (ETy.one (CTy.int IntKind.u32)) zd], HObj.box [AV.bool wb, AV.imm (ETy.one (CTy.int IntKind.u32)) wn, AV.imm (ETy.one (CTy.int IntKind.u32)) wd], HObj.box [AV.bool z.1, AV.imm (ETy.one (CTy.int IntKind.u32)) z.2.1, AV.imm (ETy.one (CTy.int IntKind.u32)) z.2.2]] else ∃ u_4 v_4, Sem.limbsOf (u_1 * v_1) = Sem.limbsOf u_4 ∧ Sem.limbsOf (u * v) = Sem.limbsOf v_4 ∧ Sem.dg u_4 ≤ 9000000000 ∧ v_4 ≤ u_4 ∧ ∃ u v, Sem.limbsOf (u_4 - v_4) = Sem.limbsOf u ∧ Sem.limbsOf (u_2 * v_2) = Sem.limbsOf v ∧ 0 < v ∧ Sem.dg u ≤ 9000000000 ∧ Sem.dg v ≤ 9000000000 ∧ ∀ (z : Bool × List Int × List Int), Sem.QV z (Sem.mkq wb u v) → K (AV.agg [AV.bool z.1, AV.imm (ETy.one (CTy.int IntKind.u32)) z.2.1, AV.imm (ETy.one (CTy.int IntKind.u32)) z.2.2]) [HObj.box [AV.bool zb, AV.imm (ETy.one (CTy.int IntKind.u32)) zn, AV.imm (ETy.one (CTy.int IntKind.u32)) zd], HObj.box [AV.bool wb, AV.imm (ETy.one (CTy.int IntKind.u32)) wn, AV.imm (ETy.one (CTy.int IntKind.u32)) wd], HObj.box [AV.bool z.1, AV.imm (ETy.one (CTy.int IntKind.u32)) z.2.1, AV.imm (ETy.one (CTy.int IntKind.u32)) z.2.2]]) := by kernel_rfl
def qsub_live : List (Nat × List Nat) := []
def qsub_nils : List (Nat × ETy) := []
set_option maxRecDepth 1000000 in
theorem qsub_E (zb : Bool) (zn : List Int) (zd : List Int) (wb : Bool) (wn : List Int) (wd : List Int) (n0 : Nat) (K : AV → List HObj → Prop) :
    execN tab (mixE tab conQ3 [] 400) (maskN qsub_live qsub_nils (GoodL Tryz.prog n0 28 K)) (finK tab (fnT Tryz.f28).res K) 400 [.code (fnT Tryz.f28).body] ⟨initEnv (fnT Tryz.f28).n [AV.agg [AV.bool zb, AV.imm (ETy.one (CTy.int IntKind.u32)) zn, AV.imm (ETy.one (CTy.int IntKind.u32)) zd], AV.agg [AV.bool wb, AV.imm (ETy.one (CTy.int IntKind.u32)) wn, AV.imm (ETy.one (CTy.int IntKind.u32)) wd]], []⟩ =
    (∃ q, Sem.QV (wb, wn, wd) q ∧ ∀ (r : Bool × List Int × List Int), Sem.QV r (-q) → ∃ x y, Sem.QV (zb, zn, zd) x ∧ Sem.QV (r.1, r.2.1, r.2.2) y ∧ Sz 4000000000 x ∧ Sz 4000000000 y ∧ ∀ (r : Bool × List Int × List Int), Sem.QV r (x + y) → K (AV.agg [AV.bool r.1, AV.imm (ETy.one (CTy.int IntKind.u32)) r.2.1, AV.imm (ETy.one (CTy.int IntKind.u32)) r.2.2]) [HObj.box [AV.bool zb, AV.imm (ETy.one (CTy.int IntKind.u32)) zn, AV.imm (ETy.one (CTy.int IntKind.u32)) zd], HObj.box [AV.bool wb, AV.imm (ETy.one (CTy.int IntKind.u32)) wn, AV.imm (ETy.one (CTy.int IntKind.u32)) wd], HObj.box [AV.bool r.1, AV.imm (ETy.one (CTy.int IntKind.u32)) r.2.1, AV.imm (ETy.one (CTy.int IntKind.u32)) r.2.2]]) := by kernel_rfl
def qquo_live : List (Nat × List Nat) := []
def qquo_nils : List (Nat × ETy) := []
set_option maxRecDepth 1000000 in
theorem qquo_E (zb : Bool) (zn : List Int) (zd : List Int) (wb : Bool) (wn : List Int) (wd : List Int) (n0 : Nat) (K : AV → List HObj → Prop) :
    execN tab (mixE tab conQ2 [] 400) (maskN qquo_live qquo_nils (GoodL Tryz.prog n0 46 K)) (finK tab (fnT Tryz.f46).res K) 400 [.code (fnT Tryz.f46).body] ⟨initEnv (fnT Tryz.f46).n [AV.agg [AV.bool zb, AV.imm (ETy.one (CTy.int IntKind.u32)) zn, AV.imm (ETy.one (CTy.int IntKind.u32)) zd], AV.agg [AV.bool wb, AV.imm (ETy.one (CTy.int IntKind.u32)) wn, AV.imm (ETy.one (CTy.int IntKind.u32)) wd]], []⟩ =
    (bif decide ((↑zn.length : Int) = 0) then K (AV.agg [AV.bool false, AV.nils, AV.nils]) [HObj.box [AV.bool zb, AV.imm (ETy.one (CTy.int IntKind.u32)) zn, AV.imm (ETy.one (CTy.int IntKind.u32)) zd], HObj.box [AV.bool wb, AV.imm (ETy.one (CTy.int IntKind.u32)) wn, AV.imm (ETy.one (CTy.int IntKind.u32)) wd], HObj.box [AV.bool false, AV.nils, AV.nils]] else bif bif false then true else decide ((↑wn.length : Int) = 0) then K (AV.agg [AV.bool false, AV.nils, AV.nils]) [HObj.box [AV.bool zb, AV.imm (ETy.one (CTy.int IntKind.u32)) zn, AV.imm (ETy.one (CTy.int IntKind.u32)) zd], HObj.box [AV.bool wb, AV.imm (ETy.one (CTy.int IntKind.u32)) wn, AV.imm (ETy.one (CTy.int IntKind.u32)) wd], HObj.box [AV.bool false, AV.nils, AV.nils]] else ∃ q, Sem.QV (wb, wn, wd) q ∧ ∃ u v, zn = Sem.limbsOf u ∧ Sem.limbsOf q.den = Sem.limbsOf v ∧ Sem.dg u ≤ 9000000000 ∧ Sem.dg v ≤ 9000000000 ∧ ∃ q, Sem.QV (zb, zn, zd) q ∧ ∃ u_1 v_1, Sem.limbsOf q.den = Sem.limbsOf u_1 ∧ wn = Sem.limbsOf v_1 ∧ Sem.dg u_1 ≤ 9000000000 ∧ Sem.dg v_1 ≤ 9000000000 ∧ ∃ u_2 v_2, Sem.limbsOf (u * v) = Sem.limbsOf u_2 ∧ Sem.limbsOf (u_1 * v_1) = Sem.limbsOf v_2 ∧ 0 < v_2 ∧ Sem.dg u_2 ≤ 9000000000 ∧ Sem.dg v_2 ≤ 9000000000 ∧ ∀ (z : Bool × List Int × List Int), Sem.QV z (Sem.mkq (!zb == wb) u_2 v_2) → K (AV.agg [AV.bool z.1, AV.imm (ETy.one (CTy.int IntKind.u32)) z.2.1, AV.imm (ETy.one (CTy.int IntKind.u32)) z.2.2]) [HObj.box [AV.bool zb, AV.imm (ETy.one (CTy.int IntKind.u32)) zn, AV.imm (ETy.one (CTy.int IntKind.u32)) zd], HObj.box [AV.bool wb, AV.imm (ETy.one (CTy.int IntKind.u32)) wn, AV.imm (ETy.one (CTy.int IntKind.u32)) wd], HObj.box [AV.bool z.1, AV.imm (ETy.one (CTy.int IntKind.u32)) z.2.1, AV.imm (ETy.one (CTy.int IntKind.u32)) z.2.2]]) := by kernel_rfl
def qcmp_live : List (Nat × List Nat) := []
def qcmp_nils : List (Nat × ETy) := []
set_option maxRecDepth 1000000 in
theorem qcmp_E (zb : Bool) (zn : List Int) (zd : List Int) (wb : Bool) (wn : List Int) (wd : List Int) (n0 : Nat) (K : AV → List HObj → Prop) :
    execN tab (mixE tab conQ3b [] 400) (maskN qcmp_live qcmp_nils (GoodL Tryz.prog n0 50 K)) (finK tab (fnT Tryz.f50).res K) 400 [.code (fnT Tryz.f50).body] ⟨initEnv (fnT Tryz.f50).n [AV.agg [AV.bool zb, AV.imm (ETy.one (CTy.int IntKind.u32)) zn, AV.imm (ETy.one (CTy.int IntKind.u32)) zd], AV.agg [AV.bool wb, AV.imm (ETy.one (CTy.int IntKind.u32)) wn, AV.imm (ETy.one (CTy.int IntKind.u32)) wd]], []⟩ =
    (∃ x y, Sem.QV (zb, zn, zd) x ∧ Sem.QV (wb, wn, wd) y ∧ Sz 4000000000 x ∧ Sz 4000000000 y ∧ ∀ (r : Bool × List Int × List Int), Sem.QV r (x - y) → ∃ q, Sem.QV (r.1, r.2.1, r.2.2) q ∧ K (AV.int IntKind.i64 (Sem.sgn q)) [HObj.box [AV.bool zb, AV.imm (ETy.one (CTy.int IntKind.u32)) zn, AV.imm (ETy.one (CTy.int IntKind.u32)) zd], HObj.box [AV.bool wb, AV.imm (ETy.one (CTy.int IntKind.u32)) wn, AV.imm (ETy.one (CTy.int IntKind.u32)) wd]]) := by kernel_rfl
def qcheck_live : List (Nat × List Nat) := []
def qcheck_nils : List (Nat × ETy) := []
set_option maxRecDepth 1000000 in
theorem qcheck_E (s : ByteArray) (n0 : Nat) (K : AV → List HObj → Prop) :
    execN tab (mixE tab conQ1 [] 400) (maskN qcheck_live qcheck_nils (GoodL Tryz.prog n0 81 K)) (finK tab (fnT Tryz.f81).res K) 400 [.code (fnT Tryz.f81).body] ⟨initEnv (fnT Tryz.f81).n [AV.str s], []⟩ =
    (ByteArray.mk #[45] = ByteArray.mk #[45] ∧
  s.size ≤ 1000000000000000000 ∧
    ByteArray.mk #[47] = ByteArray.mk #[47] ∧
      (preR s).size ≤ 1000000000000000000 ∧
        (cutA (preR s)).size ≤ 1000000000000000 ∧
          bif cutI (preR s) then (cutB (preR s)).size ≤ 1000000000000000 ∧ bif decide (Pure.natErr (cutA (preR s)) = 5) then K (AV.int IntKind.i64 5) [] else bif bif false then true else decide (Pure.natErr (cutB (preR s)) = 5) then K (AV.int IntKind.i64 5) [] else bif preB s then bif bif false then true else bif true then (cutA (preR s)).toList == (ByteArray.mk #[48]).toList else false then K (AV.int IntKind.i64 5) [] else bif !decide (Pure.natErr (cutA (preR s)) = 0) then K (AV.int IntKind.i64 2) [] else bif bif false then true else !decide (Pure.natErr (cutB (preR s)) = 0) then K (AV.int IntKind.i64 2) [] else bif cutI (preR s) then bif (cutB (preR s)).toList == (ByteArray.mk #[48]).toList then K (AV.int IntKind.i64 3) [] else bif bif false then true else (cutB (preR s)).toList == (ByteArray.mk #[49]).toList then K (AV.int IntKind.i64 3) [] else ∃ n, cutA (preR s) = Sem.natText n ∧ Bd n ∧ ∃ n_1, cutB (preR s) = Sem.natText n_1 ∧ Bd n_1 ∧ ∃ u v, Sem.limbsOf n = Sem.limbsOf u ∧ Sem.limbsOf n_1 = Sem.limbsOf v ∧ Sem.dg u ≤ 9000000000 ∧ Sem.dg v ≤ 9000000000 ∧ NatI 1 ∧ ∃ u_1 v_1, Sem.limbsOf (u.gcd v) = Sem.limbsOf u_1 ∧ Sem.limbsOf 1 = Sem.limbsOf v_1 ∧ Sem.dg u_1 ≤ 9000000000 ∧ bif bif true then bif false then true else !decide (Pure.cmpI (↑u_1 : Int) (↑v_1 : Int) = 0) else false then K (AV.int IntKind.i64 3) [] else K (AV.int IntKind.i64 0) [] else K (AV.int IntKind.i64 0) [] else bif !decide (Pure.natErr (cutA (preR s)) = 0) then K (AV.int IntKind.i64 2) [] else bif bif false then true else !decide (Pure.natErr (cutB (preR s)) = 0) then K (AV.int IntKind.i64 2) [] else bif cutI (preR s) then bif (cutB (preR s)).toList == (ByteArray.mk #[48]).toList then K (AV.int IntKind.i64 3) [] else bif bif false then true else (cutB (preR s)).toList == (ByteArray.mk #[49]).toList then K (AV.int IntKind.i64 3) [] else ∃ n, cutA (preR s) = Sem.natText n ∧ Bd n ∧ ∃ n_1, cutB (preR s) = Sem.natText n_1 ∧ Bd n_1 ∧ ∃ u v, Sem.limbsOf n = Sem.limbsOf u ∧ Sem.limbsOf n_1 = Sem.limbsOf v ∧ Sem.dg u ≤ 9000000000 ∧ Sem.dg v ≤ 9000000000 ∧ NatI 1 ∧ ∃ u_1 v_1, Sem.limbsOf (u.gcd v) = Sem.limbsOf u_1 ∧ Sem.limbsOf 1 = Sem.limbsOf v_1 ∧ Sem.dg u_1 ≤ 9000000000 ∧ bif bif true then bif false then true else !decide (Pure.cmpI (↑u_1 : Int) (↑v_1 : Int) = 0) else false then K (AV.int IntKind.i64 3) [] else K (AV.int IntKind.i64 0) [] else K (AV.int IntKind.i64 0) []
          else bif decide (Pure.natErr (cutA (preR s)) = 5) then K (AV.int IntKind.i64 5) [] else bif preB s then bif bif false then true else bif true then (cutA (preR s)).toList == (ByteArray.mk #[48]).toList else false then K (AV.int IntKind.i64 5) [] else bif !decide (Pure.natErr (cutA (preR s)) = 0) then K (AV.int IntKind.i64 2) [] else bif cutI (preR s) then bif (cutB (preR s)).toList == (ByteArray.mk #[48]).toList then K (AV.int IntKind.i64 3) [] else bif bif false then true else (cutB (preR s)).toList == (ByteArray.mk #[49]).toList then K (AV.int IntKind.i64 3) [] else ∃ n, cutA (preR s) = Sem.natText n ∧ Bd n ∧ ∃ n_1, cutB (preR s) = Sem.natText n_1 ∧ Bd n_1 ∧ ∃ u v, Sem.limbsOf n = Sem.limbsOf u ∧ Sem.limbsOf n_1 = Sem.limbsOf v ∧ Sem.dg u ≤ 9000000000 ∧ Sem.dg v ≤ 9000000000 ∧ NatI 1 ∧ ∃ u_1 v_1, Sem.limbsOf (u.gcd v) = Sem.limbsOf u_1 ∧ Sem.limbsOf 1 = Sem.limbsOf v_1 ∧ Sem.dg u_1 ≤ 9000000000 ∧ bif bif true then bif false then true else !decide (Pure.cmpI (↑u_1 : Int) (↑v_1 : Int) = 0) else false then K (AV.int IntKind.i64 3) [] else K (AV.int IntKind.i64 0) [] else K (AV.int IntKind.i64 0) [] else bif !decide (Pure.natErr (cutA (preR s)) = 0) then K (AV.int IntKind.i64 2) [] else bif cutI (preR s) then bif (cutB (preR s)).toList == (ByteArray.mk #[48]).toList then K (AV.int IntKind.i64 3) [] else bif bif false then true else (cutB (preR s)).toList == (ByteArray.mk #[49]).toList then K (AV.int IntKind.i64 3) [] else ∃ n, cutA (preR s) = Sem.natText n ∧ Bd n ∧ ∃ n_1, cutB (preR s) = Sem.natText n_1 ∧ Bd n_1 ∧ ∃ u v, Sem.limbsOf n = Sem.limbsOf u ∧ Sem.limbsOf n_1 = Sem.limbsOf v ∧ Sem.dg u ≤ 9000000000 ∧ Sem.dg v ≤ 9000000000 ∧ NatI 1 ∧ ∃ u_1 v_1, Sem.limbsOf (u.gcd v) = Sem.limbsOf u_1 ∧ Sem.limbsOf 1 = Sem.limbsOf v_1 ∧ Sem.dg u_1 ≤ 9000000000 ∧ bif bif true then bif false then true else !decide (Pure.cmpI (↑u_1 : Int) (↑v_1 : Int) = 0) else false then K (AV.int IntKind.i64 3) [] else K (AV.int IntKind.i64 0) [] else K (AV.int IntKind.i64 0) []) := by kernel_rfl
def qchecks_live : List (Nat × List Nat) := [(2, [6, 7, 8])]
def qchecks_nils : List (Nat × ETy) := [(6, ETy.one CTy.str)]
noncomputable def qchecks_s2_0 (l : List ByteArray) (x0 : Int) (x1 : Int) : St := stOf 18 [(6, AV.imm (ETy.one CTy.str) l), (7, AV.int IntKind.i64 x0), (8, AV.int IntKind.i64 x1)] []
set_option maxRecDepth 1000000 in
theorem qchecks_E (l : List ByteArray) (n0 : Nat) (K : AV → List HObj → Prop) :
    execN tab (mixE tab conQ4 [] 400) (maskN qchecks_live qchecks_nils (GoodL Tryz.prog n0 70 K)) (finK tab (fnT Tryz.f70).res K) 400 [.code (fnT Tryz.f70).body] ⟨initEnv (fnT Tryz.f70).n [AV.imm (ETy.one CTy.str) l], []⟩ =
    (GoodL Tryz.prog n0 70 K (headAt (fnT Tryz.f70) 2) (qchecks_s2_0 l (↑l.length : Int) 0)) := by kernel_rfl
set_option maxRecDepth 1000000 in
theorem qchecks_s2_0_E (l : List ByteArray) (x0 : Int) (x1 : Int) (n0 : Nat) (K : AV → List HObj → Prop) :
    execN tab (mixE tab conQ4 [] 400) (maskN qchecks_live qchecks_nils (GoodL Tryz.prog n0 70 K)) (finK tab (fnT Tryz.f70).res K) 400 (roundAt (fnT Tryz.f70) 2) (qchecks_s2_0 l x0 x1) =
    (bif decide (x1 < x0) then bif decide (0 ≤ x1) && decide (x1 < (↑l.length : Int)) then Tx (l.getD x1.toNat ByteArray.empty) ∧ bif !decide (ratErr (l.getD x1.toNat ByteArray.empty) = 0) then K (AV.int IntKind.i64 (ratErr (l.getD x1.toNat ByteArray.empty))) [] else GoodL Tryz.prog n0 70 K (headAt (fnT Tryz.f70) 2) (qchecks_s2_0 l x0 (IntKind.i64.wrap (x1 + 1))) else False else K (AV.int IntKind.i64 0) []) := by kernel_rfl
end Go.Proofs.YtnjbabkfdcdkbaaGreatDoor.Mach
end
section
/- Package rat: the functions on numbers: the contracts hold. -/
set_option linter.unusedVariables false
set_option linter.unusedSimpArgs false
namespace Go.Proofs.YtnjbabkfdcdkbaaGreatDoor.Lib
open Go Go.Proofs.YtnjbabkfdcdkbaaGreatDoor.Mach Go.Proofs.YtnjbabkfdcdkbaaGreatDoorW.PrintWords Go.Proofs.YtnjbabkfdcdkbaaGreatDoor.Sem Go.Proofs.YtnjbabkfdcdkbaaGreatDoor.Pure
def resQ (q : Rat) : Res := fun v o => o = [] ∧ ((∃ z, QV z q ∧ v = qa z) ∨ (q = 0 ∧ v = .agg [.bool false, .nils, .nils]))
theorem con_Q {P : Program} {g : FuncId} {args : List AV} {q : Rat} {Q : Res} (h : Con P g args (resQ q)) (hQ : ∀ z, QV z q → Q (qa z) []) : Con P g args Q :=
  h.sealTo fun v o hv => by
    obtain ⟨rfl, ⟨z, hz, rfl⟩ | ⟨rfl, rfl⟩⟩ := hv
    · exact ⟨_, ⟨_, rfl, .cons rfl (.cons rfl (.cons rfl .nil))⟩, hQ z hz⟩
    · exact ⟨_, ⟨_, rfl, .cons rfl (.cons (Or.inr ⟨eW, rfl⟩) (.cons (Or.inr ⟨eW, rfl⟩) .nil))⟩, hQ (false, [], []) QV.zero⟩
theorem res_Q {z : QT} {q : Rat} {H : List HObj} (h : QV z q) : resK (resQ q) (.agg [.bool z.1, .imm eW z.2.1, .imm eW z.2.2]) H := res_plain ⟨rfl, .inl ⟨z, h, rfl⟩⟩ rfl rfl
theorem res_Q0 {q : Rat} {H : List HObj} (h : q = 0) : resK (resQ q) (.agg [.bool false, .nils, .nils]) H := res_plain ⟨rfl, .inr ⟨h, rfl⟩⟩ rfl rfl
theorem len0 {n : Nat} (h : n = 0) : (n : Int) = 0 := by omega
theorem nlen0 {n : Nat} (h : ¬ n = 0) : ¬ (n : Int) = 0 := by omega
theorem dg_one : dg 1 = 1 := by
  show (natText 1).size = 1
  rw [natText_one]; rfl
theorem dg_zero : dg 0 = 1 := by
  show (natText 0).size = 1
  rw [natText_zero]; rfl
theorem natI1 : NatI 1 := ⟨by decide, by decide⟩
theorem cmp_gt {u v : Nat} : cmpI (u : Int) (v : Int) > 0 ↔ v < u := by
  unfold cmpI
  split
  · omega
  · split <;> omega
theorem cmp_ge {u v : Nat} : cmpI (u : Int) (v : Int) ≥ 0 ↔ v ≤ u := by
  unfold cmpI
  split
  · omega
  · split <;> omega
theorem cmp_eq {u v : Nat} : cmpI (u : Int) (v : Int) = 0 ↔ v = u := by
  unfold cmpI
  split
  · omega
  · split <;> omega
theorem conQ1_ok : ∀ g xs Q, conQ1 g xs Q → Con Tryz.prog g xs Q := table_ok fun p hp => by
  simp only [List.mem_cons, List.not_mem_nil, or_false] at hp
  rcases hp with rfl | rfl | rfl | rfl | rfl | rfl | rfl | rfl | rfl | rfl | rfl | rfl | rfl
  · exact c1_ok fun _ _ h => of_conS h
  · exact c2_ok fun _ _ _ h => gcd_conS h
  · exact c2_ok fun _ _ _ h => cmp_conS h
  · exact c2_ok fun _ _ _ h => div_conS h
  · exact c2_ok fun _ _ _ h => add_conS h
  · exact c2_ok fun _ _ _ h => sub_conS h
  · exact c2_ok fun _ _ _ h => mul_conS h
  · exact c1_ok fun _ _ h => text_conS h
  · exact c1_ok fun _ _ h => digits_conS h
  · exact c1_ok fun _ _ h => read_conS h
  · exact c1_ok fun _ _ h => check_conS h
  · exact c2_ok fun _ _ _ h => pre_con h
  · exact c2_ok fun _ _ _ h => cut_con h
theorem whole_con {z : QT} {Q : Res} (h : wholeS z Q) : Con Tryz.prog 55 [qa z] Q := by
  obtain ⟨q, hz, hq⟩ := h
  obtain ⟨b, n, d⟩ := z
  refine conN (gn := fnT Tryz.f55) (by kernel_rfl) conQ1_ok (inl := []) (LT := qwhole_live) (NT := qwhole_nils) rfl fun n0 => ?_
  refine (qwhole_E b n d n0 _).symm ▸ ?_
  by_cases h0 : d.length = 0
  · refine bif_pos (len0 h0) ⟨natI1, ?_⟩
    rcases hz.den with hd | ⟨hd, hd1⟩
    · have : d = limbsOf q.den := hd
      rw [this, limbsOf_len] at h0
      exact absurd h0 q.den_nz
    · rw [hd1] at hq
      exact res_plain hq rfl rfl
  · refine bif_neg (nlen0 h0) ?_
    rcases hz.den with hd | ⟨hd, hd1⟩
    · have : d = limbsOf q.den := hd
      rw [this]
      exact res_plain hq rfl rfl
    · exact absurd (congrArg List.length hd) h0
theorem low_con {neg : Bool} {n d : List Int} {Q : Res} (h : lowS neg n d Q) : Con Tryz.prog 56 [.bool neg, .imm eW n, .imm eW d] Q := by
  obtain ⟨u, v, rfl, rfl, hv, hbu, hbv, hq⟩ := h
  refine con_Q ?_ hq
  refine conN (gn := fnT Tryz.f56) (by kernel_rfl) conQ1_ok (inl := []) (LT := qlow_live) (NT := qlow_nils) rfl fun n0 => ?_
  rw [qlow_E]
  by_cases h0 : u = 0
  · subst h0
    refine bif_pos (len0 (limbsOf_len.2 rfl)) ?_
    exact res_Q0 (mkq_zero _ _)
  · refine bif_neg (nlen0 fun h => h0 (limbsOf_len.1 h)) ?_
    have hg : 0 < Nat.gcd u v := Nat.gcd_pos_of_pos_right u hv
    have hgb : dg (Nat.gcd u v) ≤ 9000000000 := Nat.le_trans (dg_mono (Nat.le_of_dvd hv (Nat.gcd_dvd_right u v))) hbv
    refine ⟨u, v, rfl, rfl, hbu, hbv, natI1, Nat.gcd u v, 1, rfl, rfl, hgb, ?_⟩
    by_cases h1 : 1 < Nat.gcd u v
    · refine bif_pos (cmp_gt.2 h1) ⟨u, Nat.gcd u v, rfl, rfl, hbu, hgb, hg, v, Nat.gcd u v, rfl, rfl, hbv, hgb, hg, ?_⟩
      rw [← mkq_norm neg u v _ hg (Nat.gcd_dvd_left u v) (Nat.gcd_dvd_right u v)]
      exact res_Q (z := (neg, _, _)) (QV.make (Nat.div_pos (Nat.le_of_dvd (by omega) (Nat.gcd_dvd_left u v)) hg) (Nat.div_pos (Nat.le_of_dvd hv (Nat.gcd_dvd_right u v)) hg) (by rw [Nat.gcd_div (Nat.gcd_dvd_left u v) (Nat.gcd_dvd_right u v), Nat.div_self hg]))
    · refine bif_neg (fun h => h1 (cmp_gt.1 h)) ?_
      exact res_Q (z := (neg, _, _)) (QV.make (by omega) hv (by omega))
theorem conQ2_ok : ∀ g xs Q, conQ2 g xs Q → Con Tryz.prog g xs Q := table_ok fun p hp => by
  simp only [List.mem_cons, List.not_mem_nil, or_false] at hp
  rcases hp with rfl | rfl | rfl | rfl | rfl | rfl | rfl | rfl | rfl | rfl | rfl
  · exact c1_ok fun _ _ h => of_conS h
  · exact c2_ok fun _ _ _ h => gcd_conS h
  · exact c2_ok fun _ _ _ h => cmp_conS h
  · exact c2_ok fun _ _ _ h => div_conS h
  · exact c2_ok fun _ _ _ h => add_conS h
  · exact c2_ok fun _ _ _ h => sub_conS h
  · exact c2_ok fun _ _ _ h => mul_conS h
  · exact c1_ok fun _ _ h => text_conS h
  · exact c1_ok fun _ _ h => digits_conS h
  · exact c1_ok fun _ _ h => whole_con h
  · exact c3_ok fun _ _ _ _ h => low_con h
theorem qv_nlen {b : Bool} {n d : List Int} {q : Rat} (h : QV (b, n, d) q) : n = limbsOf q.num.natAbs := h.num
theorem qv_len {b : Bool} {n d : List Int} {q : Rat} (h : QV (b, n, d) q) : (n.length : Int) = 0 ↔ q = 0 := by
  have : (n.length = 0) ↔ q = 0 := h.nil
  rw [← this]; omega
theorem sz_n {k : Nat} {q : Rat} (h : Sz k q) : dg q.num.natAbs ≤ k := h.1
theorem sz_d {k : Nat} {q : Rat} (h : Sz k q) : dg q.den ≤ k := h.2
theorem qv_sgn {b : Bool} {n d : List Int} {q : Rat} (h : QV (b, n, d) q) (h0 : ¬ q = 0) : sgn q = bif b then -1 else 1 := by
  have hb : b = decide (q.num < 0) := h.neg
  unfold sgn
  rw [if_neg (fun h => h0 (Rat.num_eq_zero.1 h)), hb]
  by_cases hn : q.num < 0
  · rw [if_pos hn, decide_eq_true hn]; rfl
  · rw [if_neg hn, decide_eq_false hn]; rfl
theorem sign_con {z : QT} {Q : Res} (h : signS z Q) : Con Tryz.prog 44 [qa z] Q := by
  obtain ⟨q, hz, hq⟩ := h
  obtain ⟨b, n, d⟩ := z
  refine conN (gn := fnT Tryz.f44) (by kernel_rfl) conQ2_ok (inl := []) (LT := qsign_live) (NT := qsign_nils) rfl fun n0 => ?_
  refine (qsign_E b n d n0 _).symm ▸ ?_
  by_cases h0 : q = 0
  · refine bif_pos ((qv_len hz).2 h0) ?_
    rw [show sgn q = 0 by rw [h0]; rfl] at hq
    exact res_plain hq rfl rfl
  · refine bif_neg (fun h => h0 ((qv_len hz).1 h)) ?_
    rw [qv_sgn hz h0] at hq
    cases b
    · exact res_plain hq rfl rfl
    · exact res_plain hq rfl rfl
theorem neg_QV {b : Bool} {n d : List Int} {q : Rat} (h : QV (b, n, d) q) (h0 : ¬ q = 0) : QV (!b, n, d) (-q) := by
  have hb : b = decide (q.num < 0) := h.neg
  refine ⟨?_, ?_, ?_⟩
  · show (!b) = decide ((-q).num < 0)
    rw [Rat.neg_num, hb]
    have : q.num ≠ 0 := fun h => h0 (Rat.num_eq_zero.1 h)
    by_cases hn : q.num < 0
    · rw [decide_eq_true hn, decide_eq_false (by omega)]; rfl
    · rw [decide_eq_false hn, decide_eq_true (by omega)]; rfl
  · rw [Rat.neg_num, Int.natAbs_neg]; exact h.num
  · rw [Rat.neg_den]; exact h.den
theorem neg_con {z : QT} {Q : Res} (h : negS z Q) : Con Tryz.prog 60 [qa z] Q := by
  obtain ⟨q, hz, hq⟩ := h
  refine con_Q ?_ hq
  obtain ⟨b, n, d⟩ := z
  refine conN (gn := fnT Tryz.f60) (by kernel_rfl) conQ2_ok (inl := []) (LT := qneg_live) (NT := qneg_nils) rfl fun n0 => ?_
  refine (qneg_E b n d n0 _).symm ▸ ?_
  by_cases h0 : q = 0
  · refine bif_pos ((qv_len hz).2 h0) ?_
    refine res_Q (z := (b, n, d)) ?_
    subst h0
    exact hz
  · refine bif_neg (fun h => h0 ((qv_len hz).1 h)) ?_
    exact res_Q (z := (!b, n, d)) (neg_QV hz h0)
theorem dg_mul2 {u v : Nat} (hu : dg u ≤ 4000000000) (hv : dg v ≤ 4000000000) : dg (u * v) ≤ 8000000000 := Nat.le_trans (dg_mul u v) (by omega)
theorem add_con {z w : QT} {Q : Res} (h : addQ z w Q) : Con Tryz.prog 26 [qa z, qa w] Q := by
  obtain ⟨x, y, hz, hw, sx, sy, hq⟩ := h
  refine con_Q ?_ hq
  obtain ⟨b, n, d⟩ := z
  obtain ⟨b', n', d'⟩ := w
  refine conN (gn := fnT Tryz.f26) (by kernel_rfl) conQ2_ok (inl := []) (LT := qadd_live) (NT := qadd_nils) rfl fun n0 => ?_
  refine (qadd_E b n d b' n' d' n0 _).symm ▸ ?_
  by_cases h0 : x = 0
  · refine bif_pos ((qv_len hz).2 h0) ?_
    refine res_Q (z := (b', n', d')) ?_
    rw [h0, Rat.zero_add]; exact hw
  · refine bif_neg (fun h => h0 ((qv_len hz).1 h)) ?_
    by_cases h1 : y = 0
    · refine bif_pos ((qv_len hw).2 h1) ?_
      refine res_Q (z := (b, n, d)) ?_
      rw [h1, Rat.add_zero]; exact hz
    · refine bif_neg (fun h => h1 ((qv_len hw).1 h)) ?_
      have e1 := sz_n sx; have e2 := sz_d sx; have e3 := sz_n sy; have e4 := sz_d sy
      have m1 := dg_mul2 e1 e4
      have m2 := dg_mul2 e3 e2
      have m3 := dg_mul2 e2 e4
      have px := den_pos x
      have py := den_pos y
      have hsum : x + y = mkq b x.num.natAbs x.den + mkq b' y.num.natAbs y.den := by rw [hz.of, hw.of]
      rw [mkq_add _ _ _ _ _ _ px py] at hsum
      refine ⟨y, hw, _, _, (qv_nlen hz), rfl, by omega, by omega, x, hz, _, _, (qv_nlen hw), rfl, by omega, by omega, x, hz, y, hw, _, _, rfl, rfl, by omega, by omega, ?_⟩
      by_cases hb : b = b'
      · rw [if_pos hb] at hsum
        refine bif_t (by rw [hb, beq_self_eq_true]) ?_
        refine ⟨_, _, rfl, rfl, by omega, by omega, _, _, rfl, rfl, Nat.mul_pos px py, ?_, by omega, fun r hr => ?_⟩
        · have := dg_add m1 m2; omega
        · rw [hsum]; exact res_Q hr
      · rw [if_neg hb] at hsum
        refine bif_f (by simpa using hb) ?_
        refine ⟨_, _, rfl, rfl, by omega, ?_⟩
        by_cases hc : y.num.natAbs * x.den ≤ x.num.natAbs * y.den
        · rw [if_pos hc] at hsum
          refine bif_pos (cmp_ge.2 hc) ?_
          refine ⟨_, _, rfl, rfl, by omega, hc, _, _, rfl, rfl, Nat.mul_pos px py, ?_, by omega, fun r hr => ?_⟩
          · have := dg_mono (Nat.sub_le (x.num.natAbs * y.den) (y.num.natAbs * x.den)); omega
          · rw [hsum]; exact res_Q hr
        · rw [if_neg hc] at hsum
          refine bif_neg (fun h => hc (cmp_ge.1 h)) ?_
          refine ⟨_, _, rfl, rfl, by omega, by omega, _, _, rfl, rfl, Nat.mul_pos px py, ?_, by omega, fun r hr => ?_⟩
          · have := dg_mono (Nat.sub_le (y.num.natAbs * x.den) (x.num.natAbs * y.den)); omega
          · rw [hsum]; exact res_Q hr
theorem quo_con {z w : QT} {Q : Res} (h : quoQ z w Q) : Con Tryz.prog 46 [qa z, qa w] Q := by
  obtain ⟨x, y, hz, hw, sx, sy, hq⟩ := h
  refine con_Q ?_ hq
  obtain ⟨b, n, d⟩ := z
  obtain ⟨b', n', d'⟩ := w
  refine conN (gn := fnT Tryz.f46) (by kernel_rfl) conQ2_ok (inl := []) (LT := qquo_live) (NT := qquo_nils) rfl fun n0 => ?_
  refine (qquo_E b n d b' n' d' n0 _).symm ▸ ?_
  by_cases h0 : x = 0
  · refine bif_pos ((qv_len hz).2 h0) (res_Q0 (by rw [h0, Rat.div_def, Rat.zero_mul]))
  · refine bif_neg (fun h => h0 ((qv_len hz).1 h)) ?_
    by_cases h1 : y = 0
    · refine bif_t (decide_eq_true ((qv_len hw).2 h1)) (res_Q0 (by rw [h1, Rat.div_def, Rat.inv_zero, Rat.mul_zero]))
    · refine bif_f (fun h => h1 ((qv_len hw).1 (of_decide_eq_true h))) ?_
      have e1 := sz_n sx; have e2 := sz_d sx; have e3 := sz_n sy; have e4 := sz_d sy
      have m1 := dg_mul2 e1 e4
      have m3 := dg_mul2 e2 e3
      have hy : 0 < y.num.natAbs := by
        have : y.num ≠ 0 := fun h => h1 (Rat.num_eq_zero.1 h)
        omega
      have hquo : x / y = mkq b x.num.natAbs x.den / mkq b' y.num.natAbs y.den := by rw [hz.of, hw.of]
      rw [mkq_quo _ _ _ _ _ _ (den_pos x) hy (den_pos y)] at hquo
      refine ⟨y, hw, _, _, (qv_nlen hz), rfl, by omega, by omega, x, hz, _, _, rfl, (qv_nlen hw), by omega, by omega, _, _, rfl, rfl, Nat.mul_pos (den_pos x) hy, by omega, by omega, fun r hr => ?_⟩
      rw [hquo]; exact res_Q hr
end Go.Proofs.YtnjbabkfdcdkbaaGreatDoor.Lib
end
section
/- Package rat: texts of numbers; In, Out, Fits, Told, Sub, Cmp, down, size. -/
set_option linter.unusedVariables false
set_option linter.unusedSimpArgs false
namespace Go.Proofs.YtnjbabkfdcdkbaaGreatDoor.Lib
open Go Go.Proofs.YtnjbabkfdcdkbaaGreatDoor.Mach Go.Proofs.YtnjbabkfdcdkbaaGreatDoorW.PrintWords Go.Proofs.YtnjbabkfdcdkbaaGreatDoor.Sem Go.Proofs.YtnjbabkfdcdkbaaGreatDoor.Pure
theorem toList_eq_iff {s t : ByteArray} : s.toList = t.toList ↔ s = t := ⟨str_ext, fun h => h ▸ rfl⟩
theorem nat_dig (n : Nat) : ∀ x ∈ (natText n).data.toList, 48 ≤ x.toNat ∧ x.toNat ≤ 57 := fun x hx => by
  have := natText_asc n (x.toNat : Int) (by unfold bytesOf; exact List.mem_map.2 ⟨x, hx, rfl⟩)
  omega
theorem app_empty (s : ByteArray) : s ++ ⟨#[]⟩ = s := by apply ByteArray.ext; simp [ByteArray.data_append]
theorem empty_app (s : ByteArray) : ⟨#[]⟩ ++ s = s := by apply ByteArray.ext; simp [ByteArray.data_append]
theorem pre_dash (s : ByteArray) : preB (⟨#[45]⟩ ++ s) = true ∧ preR (⟨#[45]⟩ ++ s) = s := by
  have h1 : preB (⟨#[45]⟩ ++ s) = true := by
    unfold preB
    rw [decide_eq_true (by rw [ByteArray.size_append, show (ByteArray.mk #[45]).size = 1 from rfl]; omega)]
    have : (⟨#[45]⟩ ++ s : ByteArray).extract 0 1 = ⟨#[45]⟩ := app_left ⟨#[45]⟩ s
    rw [this]; simp
  refine ⟨h1, ?_⟩
  unfold preR
  rw [h1]
  exact app_right ⟨#[45]⟩ s
theorem pre_not {s : ByteArray} {c : UInt8} {r : List UInt8} (h : s.data.toList = c :: r) (hc : c ≠ 45) : preB s = false ∧ preR s = s := by
  have h1 : preB s = false := by
    unfold preB
    have hl : s.data.toList.length = s.size := by rw [Array.length_toList]; rfl
    rw [h] at hl
    rw [decide_eq_true (by simp only [List.length_cons] at hl; omega)]
    refine beq_eq_false_iff_ne.2 fun he => ?_
    rw [ByteArray.toList_eq, ByteArray.toList_eq, ByteArray.data_extract] at he
    have : (s.data.extract 0 1).toList = [c] := by
      rw [Array.toList_extract, List.extract_eq_take_drop, h]; rfl
    rw [this] at he
    exact hc (by simpa using he)
  refine ⟨h1, ?_⟩
  unfold preR
  rw [h1]; rfl
theorem cut_none {s : ByteArray} (h : ∀ x ∈ s.data.toList, x ≠ 47) : cutI s = false ∧ cutA s = s := by
  have h1 : cutI s = false := by
    unfold cutI
    rw [firstIdx_no h]; rfl
  refine ⟨h1, ?_⟩
  unfold cutA
  rw [h1]; rfl
theorem cut_at {a b : ByteArray} (h : ∀ x ∈ a.data.toList, x ≠ 47) : cutI (a ++ (⟨#[47]⟩ ++ b)) = true ∧ cutA (a ++ (⟨#[47]⟩ ++ b)) = a ∧ cutB (a ++ (⟨#[47]⟩ ++ b)) = b := by
  have hi := firstIdx_app (b := b) h
  have h1 : cutI (a ++ (⟨#[47]⟩ ++ b)) = true := by
    unfold cutI
    rw [hi]
    exact decide_eq_true (by omega)
  refine ⟨h1, ?_, ?_⟩
  · unfold cutA
    rw [h1, hi]
    exact app_left a _
  · unfold cutB
    rw [h1, hi]
    have e : a ++ (⟨#[47]⟩ ++ b) = (a ++ ⟨#[47]⟩) ++ b := (ByteArray.append_assoc).symm
    have e2 : ((a.size : Int)).toNat + 1 = (a ++ ⟨#[47]⟩ : ByteArray).size := by rw [ByteArray.size_append, show (ByteArray.mk #[47]).size = 1 from rfl]; omega
    rw [e, e2]
    exact app_right _ _
theorem nat_cons (n : Nat) : ∃ c r, (natText n).data.toList = c :: r ∧ c ≠ 45 := by
  have h := dg_pos n
  have hl : (natText n).data.toList.length = dg n := by rw [Array.length_toList]; rfl
  match hd : (natText n).data.toList with
  | [] => rw [hd] at hl; simp at hl; omega
  | c :: r =>
    refine ⟨c, r, rfl, fun hc => ?_⟩
    have := nat_dig n c (by rw [hd]; simp)
    rw [hc] at this
    exact absurd this (by decide)
theorem nat47 (n : Nat) : ∀ x ∈ (natText n).data.toList, x ≠ 47 := fun x hx hc => by
  have := nat_dig n x hx
  rw [hc] at this
  exact absurd this (by decide)
theorem rt_parts (neg : Bool) (u v : Nat) : preB (rt neg u v) = neg ∧ cutA (preR (rt neg u v)) = natText u ∧ cutI (preR (rt neg u v)) = decide (v ≠ 1) ∧ (v ≠ 1 → cutB (preR (rt neg u v)) = natText v) := by
  have key : preB (rt neg u v) = neg ∧ preR (rt neg u v) = natText u ++ (if v = 1 then ⟨#[]⟩ else ⟨#[47]⟩ ++ natText v) := by
    unfold rt
    cases neg with
    | true => rw [cond_true, ByteArray.append_assoc]; exact pre_dash _
    | false =>
      rw [cond_false, empty_app]
      obtain ⟨c, r, h1, h2⟩ := nat_cons u
      exact pre_not (c := c) (r := r ++ (if v = 1 then (⟨#[]⟩ : ByteArray) else ⟨#[47]⟩ ++ natText v).data.toList) (by rw [show ∀ a b : ByteArray, (a ++ b).data = a.data ++ b.data from fun a b => ByteArray.data_append, Array.toList_append, h1]; rfl) h2
  refine ⟨key.1, ?_⟩
  rw [key.2]
  by_cases hv : v = 1
  · rw [if_pos hv, app_empty, (cut_none (nat47 u)).1, (cut_none (nat47 u)).2]
    exact ⟨rfl, (decide_eq_false (by simpa using hv)).symm, fun h => absurd hv h⟩
  · rw [if_neg hv]
    obtain ⟨c1, c2, c3⟩ := cut_at (b := natText v) (nat47 u)
    rw [c1, c2, c3]
    exact ⟨rfl, (decide_eq_true hv).symm, fun _ => rfl⟩
theorem rt_size (neg : Bool) (u v : Nat) : (rt neg u v).size ≤ dg u + dg v + 2 ∧ dg u ≤ (rt neg u v).size ∧ dg v ≤ (rt neg u v).size + 1 := by
  unfold rt
  rw [ByteArray.size_append, ByteArray.size_append]
  have e1 : (bif neg then (⟨#[45]⟩ : ByteArray) else ⟨#[]⟩).size ≤ 1 := by cases neg <;> decide
  have eu : (natText u).size = dg u := rfl
  have hv1 := dg_pos v
  split
  · rename_i h
    subst h
    rw [dg_one, eu]
    have : (ByteArray.mk #[]).size = 0 := rfl
    omega
  · rw [ByteArray.size_append]
    have : (ByteArray.mk #[47]).size = 1 := rfl
    have ev : (natText v).size = dg v := rfl
    omega
theorem text_size (q : Rat) : (ratText q).size ≤ szN q + szD q + 2 ∧ szN q ≤ (ratText q).size ∧ szD q ≤ (ratText q).size + 1 := rt_size _ _ _
theorem in_con {s : ByteArray} {Q : Res} (h : inS s Q) : Con Tryz.prog 71 [.str s] Q := by
  obtain ⟨q, rfl, sq, hq⟩ := h
  refine con_Q ?_ hq
  refine conN (gn := fnT Tryz.f71) (by kernel_rfl) conQ1_ok (inl := []) (LT := qin_live) (NT := qin_nils) rfl fun n0 => ?_
  rw [qin_E]
  obtain ⟨p1, p2, p3, p4⟩ := rt_parts (decide (q.num < 0)) q.num.natAbs q.den
  have hs := (text_size q).1
  have hr : (preR (ratText q)).size ≤ (ratText q).size := by
    unfold preR
    cases preB (ratText q)
    · exact Nat.le_refl _
    · rw [cond_true, ByteArray.size_extract]; omega
  have e1 := sz_n sq
  have e2 := sz_d sq
  have e3 : szN q = dg q.num.natAbs := rfl
  have e4 : szD q = dg q.den := rfl
  refine ⟨rfl, by omega, rfl, by omega, q.num.natAbs, p2, e1, natI1, ?_⟩
  have hd := den_pos q
  by_cases h1 : q.den = 1
  · refine bif_f (by rw [show ratText q = rt (decide (q.num < 0)) q.num.natAbs q.den from rfl, p3]; simpa using h1) ?_
    rw [show preB (ratText q) = decide (q.num < 0) from p1]
    exact res_Q (z := (decide (q.num < 0), _, _)) ⟨rfl, rfl, .inl (show limbsOf 1 = limbsOf q.den by rw [h1])⟩
  · refine bif_t (by rw [show ratText q = rt (decide (q.num < 0)) q.num.natAbs q.den from rfl, p3]; simpa using h1) ⟨q.den, p4 h1, e2, ?_⟩
    rw [show preB (ratText q) = decide (q.num < 0) from p1]
    exact res_Q (z := (decide (q.num < 0), _, _)) ⟨rfl, rfl, .inl rfl⟩
theorem out_con {z : QT} {Q : Res} (h : outS z Q) : Con Tryz.prog 49 [qa z] Q := by
  obtain ⟨q, hz, sq, hq⟩ := h
  obtain ⟨b, n, d⟩ := z
  refine conN (gn := fnT Tryz.f49) (by kernel_rfl) conQ2_ok (inl := []) (LT := qout_live) (NT := qout_nils) rfl fun n0 => ?_
  refine (qout_E b n d n0 _).symm ▸ ?_
  have hk : ∀ r H, ratText q = r → resK Q (.str r) H := fun r H h => by rw [h] at hq; exact res_plain hq rfl rfl
  by_cases h0 : q = 0
  · refine bif_pos ((qv_len hz).2 h0) (hk _ _ (by rw [h0]; exact ratText_zero))
  · refine bif_neg (fun h => h0 ((qv_len hz).1 h)) ⟨_, qv_nlen hz, sz_n sq, ?_⟩
    have e1 := sz_n sq
    have e2 := sz_d sq
    have eu : (natText q.num.natAbs).size = dg q.num.natAbs := rfl
    have ev : (natText q.den).size = dg q.den := rfl
    have e47 : (⟨#[47]⟩ ++ natText q.den : ByteArray).size = 1 + dg q.den := ByteArray.size_append
    have e45 : (⟨#[45]⟩ ++ natText q.num.natAbs : ByteArray).size = 1 + dg q.num.natAbs := ByteArray.size_append
    have hb : b = decide (q.num < 0) := hz.neg
    have hr : ratText q = rt b q.num.natAbs q.den := by rw [hb]; rfl
    cases b with
    | true =>
      refine bif_tt (bif_pos (by omega) ⟨q, hz, q.den, rfl, e2, ?_⟩)
      by_cases h1 : q.den = 1
      · refine bif_not (bif_t (by rw [beq_iff_eq, toList_eq_iff, h1]; exact natText_one) (hk _ _ ?_))
        rw [hr]; unfold rt
        rw [if_pos h1, app_empty]; rfl
      · refine bif_not (bif_f (by rw [beq_iff_eq, toList_eq_iff]; exact fun h => h1 (natText_inj (h.trans natText_one.symm))) (bif_pos (by omega) (bif_pos (by omega) (hk _ _ ?_))))
        rw [hr]; unfold rt
        rw [if_neg h1]; rfl
    | false =>
      refine bif_ff ⟨q, hz, q.den, rfl, e2, ?_⟩
      by_cases h1 : q.den = 1
      · refine bif_not (bif_t (by rw [beq_iff_eq, toList_eq_iff, h1]; exact natText_one) (hk _ _ ?_))
        rw [hr]; unfold rt
        rw [if_pos h1, app_empty]; exact empty_app _
      · refine bif_not (bif_f (by rw [beq_iff_eq, toList_eq_iff]; exact fun h => h1 (natText_inj (h.trans natText_one.symm))) (bif_pos (by omega) (bif_pos (by omega) (hk _ _ ?_))))
        rw [hr]; unfold rt
        rw [if_neg h1, cond_false, empty_app]
theorem fits_con {z : QT} {Q : Res} (h : fitS z Q) : Con Tryz.prog 61 [qa z] Q := by
  obtain ⟨q, hz, sq, hq⟩ := h
  obtain ⟨b, n, d⟩ := z
  refine conN (gn := fnT Tryz.f61) (by kernel_rfl) conQ2_ok (inl := []) (LT := qfits_live) (NT := qfits_nils) rfl fun n0 => ?_
  refine (qfits_E b n d n0 _).symm ▸ ?_
  have e1 := sz_n sq
  have e2 := sz_d sq
  unfold fitV at hq
  have hN : szN q = dg q.num.natAbs := rfl
  have hD : szD q = dg q.den := rfl
  rw [hN, hD] at hq
  refine ⟨_, qv_nlen hz, e1, ?_⟩
  by_cases h1 : dg q.num.natAbs > 2000
  · rw [if_pos (.inl h1)] at hq
    exact bif_pos (by omega) (res_plain hq rfl rfl)
  · refine bif_neg (by omega) ?_
    have key : ∃ m, d = limbsOf m ∧ dg m ≤ 9000000000 ∧ (dg m > 2000 ↔ dg q.den > 2000) := by
      rcases hz.den with hd | ⟨hd, hd1⟩
      · exact ⟨_, hd, e2, Iff.rfl⟩
      · refine ⟨0, hd.trans limbsOf_zero.symm, by rw [dg_zero]; decide, ?_⟩
        rw [hd1, dg_zero, dg_one]
    obtain ⟨m, hm1, hm2, hm3⟩ := key
    refine ⟨m, hm1, hm2, ?_⟩
    by_cases h2 : dg q.den > 2000
    · rw [if_pos (.inr h2)] at hq
      exact bif_t (decide_eq_true (by have := hm3.2 h2; omega)) (res_plain hq rfl rfl)
    · rw [if_neg (by rintro (h | h) <;> omega)] at hq
      exact bif_f (fun h => h2 (hm3.1 (by have := of_decide_eq_true h; omega))) (res_plain hq rfl rfl)
end Go.Proofs.YtnjbabkfdcdkbaaGreatDoor.Lib
end
section
/- Package rat: Sub, Cmp, down, size, Told, Check. -/
set_option linter.unusedVariables false
set_option linter.unusedSimpArgs false
namespace Go.Proofs.YtnjbabkfdcdkbaaGreatDoor.Lib
open Go Go.Proofs.YtnjbabkfdcdkbaaGreatDoor.Mach Go.Proofs.YtnjbabkfdcdkbaaGreatDoorW.PrintWords Go.Proofs.YtnjbabkfdcdkbaaGreatDoor.Sem Go.Proofs.YtnjbabkfdcdkbaaGreatDoor.Pure
theorem conQ3_ok : ∀ g xs Q, conQ3 g xs Q → Con Tryz.prog g xs Q := table_ok fun p hp => by
  simp only [List.mem_cons, List.not_mem_nil, or_false] at hp
  rcases hp with rfl | rfl | rfl | rfl | rfl
  · exact c2_ok fun _ _ _ h => add_con h
  · exact c1_ok fun _ _ h => neg_con h
  · exact c1_ok fun _ _ h => sign_con h
  · exact c1_ok fun _ _ h => out_con h
  · exact c1_ok fun _ _ h => fits_con h
theorem sz_neg {k : Nat} {q : Rat} (h : Sz k q) : Sz k (-q) := by
  refine ⟨?_, ?_⟩
  · show dg (-q).num.natAbs ≤ k
    rw [Rat.neg_num, Int.natAbs_neg]; exact h.1
  · show dg (-q).den ≤ k
    rw [Rat.neg_den]; exact h.2
theorem sub_con {z w : QT} {Q : Res} (h : subQ z w Q) : Con Tryz.prog 28 [qa z, qa w] Q := by
  obtain ⟨x, y, hz, hw, sx, sy, hq⟩ := h
  refine con_Q ?_ hq
  obtain ⟨b, n, d⟩ := z
  obtain ⟨b', n', d'⟩ := w
  refine conN (gn := fnT Tryz.f28) (by kernel_rfl) conQ3_ok (inl := []) (LT := qsub_live) (NT := qsub_nils) rfl fun n0 => ?_
  refine (qsub_E b n d b' n' d' n0 _).symm ▸ ?_
  refine ⟨y, hw, fun r hr => ⟨x, -y, hz, hr, sx, sz_neg sy, fun r hr => ?_⟩⟩
  rw [Rat.sub_eq_add_neg]
  exact res_Q hr
theorem conQ3b_ok : ∀ g xs Q, conQ3b g xs Q → Con Tryz.prog g xs Q := table_ok fun p hp => by
  simp only [List.mem_cons, List.not_mem_nil, or_false] at hp
  rcases hp with rfl | rfl
  · exact c2_ok fun _ _ _ h => sub_con h
  · exact c1_ok fun _ _ h => sign_con h
theorem cmp_con {z w : QT} {Q : Res} (h : cmpQ z w Q) : Con Tryz.prog 50 [qa z, qa w] Q := by
  obtain ⟨x, y, hz, hw, sx, sy, hq⟩ := h
  obtain ⟨b, n, d⟩ := z
  obtain ⟨b', n', d'⟩ := w
  refine conN (gn := fnT Tryz.f50) (by kernel_rfl) conQ3b_ok (inl := []) (LT := qcmp_live) (NT := qcmp_nils) rfl fun n0 => ?_
  refine (qcmp_E b n d b' n' d' n0 _).symm ▸ ?_
  exact ⟨x, y, hz, hw, sx, sy, fun r hr => ⟨x - y, hr, res_plain hq rfl rfl⟩⟩
theorem told_con {z : QT} {Q : Res} (h : toldS z Q) : Con Tryz.prog 51 [qa z] Q := by
  obtain ⟨q, hz, sq, hq⟩ := h
  obtain ⟨b, n, d⟩ := z
  refine conN (gn := fnT Tryz.f51) (by kernel_rfl) conQ3_ok (inl := []) (LT := qtold_live) (NT := qtold_nils) rfl fun n0 => ?_
  refine (qtold_E b n d n0 _).symm ▸ ?_
  refine ⟨q, hz, sq, ?_⟩
  unfold toldV at hq
  by_cases h0 : fitV q = 0
  · rw [if_pos h0, h0] at hq
    exact bif_not (bif_pos h0 ⟨q, hz, sq, res_plain hq rfl rfl⟩)
  · rw [if_neg h0] at hq
    exact bif_not (bif_neg h0 (res_plain hq rfl rfl))
theorem dg_word {n : Nat} (h : n < 10 ^ 20) : dg n ≤ 20 := dg_le (by decide) h
theorem err_zero {s : ByteArray} (h : natErr s = 0) : ∃ n, s = natText n ∧ dg n ≤ 2000 := by
  rcases natErr_cases s with ⟨n, hn, he⟩ | ⟨he, _⟩
  · refine ⟨n, hn, ?_⟩
    rw [he] at h
    split at h
    · cases h
    · omega
  · rw [he] at h; cases h
theorem err_text {n : Nat} (h : dg n ≤ 2000) : natErr (natText n) = 0 := by rw [natErr_text, if_neg (by omega)]
theorem preR_le (s : ByteArray) : (preR s).size ≤ s.size := by
  unfold preR
  cases preB s
  · exact Nat.le_refl _
  · rw [cond_true, ByteArray.size_extract]; omega
theorem cutA_le (s : ByteArray) : (cutA s).size ≤ s.size := by
  unfold cutA
  have := firstIdx_lt s 47
  cases cutI s
  · exact Nat.le_refl _
  · rw [cond_true, ByteArray.size_extract]; omega
theorem cutB_le (s : ByteArray) : (cutB s).size ≤ s.size := by
  unfold cutB
  cases cutI s
  · exact Nat.zero_le _
  · rw [cond_true, ByteArray.size_extract]; omega
theorem bif_dup {p c : Bool} {A T : Prop} (h1 : p = true → c = true → A) (h2 : ¬ (p = true ∧ c = true) → T) : bif p then (bif c then A else T) else T := by
  cases p with
  | false => exact h2 (by simp)
  | true =>
    cases c with
    | true => exact h1 rfl rfl
    | false => exact h2 (by simp)
theorem bytes48 {a : ByteArray} : (a.toList == (ByteArray.mk #[48]).toList) = true ↔ a = zeroS := by rw [beq_iff_eq, toList_eq_iff]
theorem bytes49 {a : ByteArray} : (a.toList == (ByteArray.mk #[49]).toList) = true ↔ a = ⟨#[49]⟩ := by rw [beq_iff_eq, toList_eq_iff]
theorem rcheck_con {s : ByteArray} {Q : Res} (h : rcheckS s Q) : Con Tryz.prog 81 [.str s] Q := by
  obtain ⟨hs, hq⟩ := h
  unfold Tx at hs
  refine conN (gn := fnT Tryz.f81) (by kernel_rfl) conQ1_ok (inl := []) (LT := qcheck_live) (NT := qcheck_nils) rfl fun n0 => ?_
  rw [qcheck_E]
  have r1 := preR_le s
  have r2 := cutA_le (preR s)
  have r3 := cutB_le (preR s)
  have hk : ∀ v, ratErr s = v → resK Q (.int .i64 v) [] := fun v h => by rw [h] at hq; exact res_plain hq rfl rfl
  refine ⟨rfl, by omega, rfl, by omega, by omega, ?_⟩
  unfold ratErr at hk
  generalize cutA (preR s) = a at *
  generalize cutB (preR s) = b at *
  cases hI : cutI (preR s) with
  | true =>
    refine bif_tt ⟨by omega, ?_⟩
    simp only [hI, true_and] at hk
    by_cases h1 : natErr a = 5
    · exact bif_pos h1 (hk 5 (if_pos (.inl h1)))
    refine bif_neg h1 ?_
    by_cases h2 : natErr b = 5
    · exact bif_t (decide_eq_true h2) (hk 5 (if_pos (.inr (.inl h2))))
    refine bif_f (fun h => h2 (of_decide_eq_true h)) ?_
    refine bif_dup (fun hp hc => hk 5 (if_pos (.inr (.inr ⟨hp, bytes48.1 hc⟩)))) fun hpc => ?_
    have h3 : ¬ (natErr a = 5 ∨ natErr b = 5 ∨ (preB s = true ∧ a = zeroS)) := by
      rintro (h | h | h)
      · exact h1 h
      · exact h2 h
      · exact hpc ⟨h.1, bytes48.2 h.2⟩
    rw [if_neg h3] at hk
    by_cases e1 : natErr a = 0
    · refine bif_not (bif_pos e1 ?_)
      by_cases e2 : natErr b = 0
      · refine bif_f (by simp [e2]) (bif_tt ?_)
        rw [if_neg (by rintro (h | h) <;> exact h (by assumption))] at hk
        by_cases f1 : b = zeroS
        · exact bif_t (bytes48.2 f1) (hk 3 (if_pos (.inl f1)))
        refine bif_f (fun h => f1 (bytes48.1 h)) ?_
        by_cases f2 : b = ⟨#[49]⟩
        · exact bif_t (bytes49.2 f2) (hk 3 (if_pos (.inr (.inl f2))))
        refine bif_f (fun h => f2 (bytes49.1 h)) ?_
        obtain ⟨u, rfl, hu⟩ := err_zero e1
        obtain ⟨v, rfl, hv⟩ := err_zero e2
        have hv0 : 0 < v := Nat.pos_of_ne_zero fun h => f1 (by rw [h]; exact natText_zero)
        have hgb : dg (Nat.gcd u v) ≤ 9000000000 := Nat.le_trans (dg_mono (Nat.le_of_dvd hv0 (Nat.gcd_dvd_right u v))) (by omega)
        rw [numOf_text, numOf_text] at hk
        refine ⟨u, rfl, by unfold Bd; omega, v, rfl, by unfold Bd; omega, _, _, rfl, rfl, by omega, by omega, natI1, _, _, rfl, rfl, hgb, ?_⟩
        by_cases f3 : Nat.gcd u v = 1
        · refine bif_f (by simp [f3, cmp_eq.2]; exact cmp_eq.2 rfl) (hk 0 (if_neg ?_))
          rintro (h | h | h)
          · exact f1 h
          · exact f2 h
          · exact h f3
        · refine bif_t ?_ (hk 3 (if_pos (.inr (.inr f3))))
          have : ¬ cmpI ((Nat.gcd u v : Nat) : Int) ((1 : Nat) : Int) = 0 := fun h => f3 (cmp_eq.1 h).symm
          simp only [cond_true, cond_false, Bool.not_eq_true', decide_eq_false_iff_not]
          exact this
      · exact bif_t (by simp [e2]) (hk 2 (if_pos (.inr e2)))
    · exact bif_not (bif_neg e1 (hk 2 (if_pos (.inl e1))))
  | false =>
    refine bif_ff ?_
    simp only [hI, Bool.false_eq_true, false_and, or_false, false_or] at hk
    by_cases h1 : natErr a = 5
    · exact bif_pos h1 (hk 5 (if_pos (.inl h1)))
    refine bif_neg h1 ?_
    refine bif_dup (fun hp hc => hk 5 (if_pos (.inr ⟨hp, bytes48.1 hc⟩))) fun hpc => ?_
    have h3 : ¬ (natErr a = 5 ∨ (preB s = true ∧ a = zeroS)) := by
      rintro (h | h)
      · exact h1 h
      · exact hpc ⟨h.1, bytes48.2 h.2⟩
    rw [if_neg h3] at hk
    by_cases e1 : natErr a = 0
    · refine bif_not (bif_pos e1 (bif_ff ?_))
      exact hk 0 (by rw [if_neg (by simpa using e1)]; simp)
    · exact bif_not (bif_neg e1 (hk 2 (if_pos e1)))
end Go.Proofs.YtnjbabkfdcdkbaaGreatDoor.Lib
end
section
/- Equations of functions (printed). -/
namespace Go.Proofs.YtnjbabkfdcdkbaaGreatDoor.Mach
open Go Go.Proofs.YtnjbabkfdcdkbaaGreatDoor Go.Proofs.YtnjbabkfdcdkbaaGreatDoor.Lib
set_option linter.unusedVariables false
def xparts_live : List (Nat × List Nat) := [(6, [5, 6, 16, 17])]
def xparts_nils : List (Nat × ETy) := []
noncomputable def xparts_s6_0 (s : ByteArray) (x0 : ByteArray) (x1 : Bool) (x2 : Int) (x3 : Int) : St := stOf 35 [(5, AV.str x0), (6, AV.bool x1), (16, AV.int IntKind.i64 x2), (17, AV.int IntKind.i64 x3)] []
noncomputable def xparts_s6_1 (s : ByteArray) (x0 : Bool) (x1 : Int) (x2 : Int) : St := stOf 35 [(5, AV.str s), (6, AV.bool x0), (16, AV.int IntKind.i64 x1), (17, AV.int IntKind.i64 x2)] []
set_option maxRecDepth 1000000 in
theorem xparts_E (s : ByteArray) (n0 : Nat) (K : AV → List HObj → Prop) :
    execN tab (mixE tab con0 [] 400) (maskN xparts_live xparts_nils (GoodL Tryz.prog n0 35 K)) (finK tab (fnT Tryz.f35).res K) 400 [.code (fnT Tryz.f35).body] ⟨initEnv (fnT Tryz.f35).n [AV.str s], []⟩ =
    (bif decide (0 < (↑s.size : Int)) then bif decide ((↑(s.data.toList.getD 0 0).toNat : Int) = 45) then bif decide (1 ≤ (↑s.size : Int)) && decide ((↑s.size : Int) ≤ (↑s.size : Int)) then GoodL Tryz.prog n0 35 K (headAt (fnT Tryz.f35) 6) (xparts_s6_0 s (s.extract 1 (↑s.size : Int).toNat) (decide ((↑(s.data.toList.getD 0 0).toNat : Int) = 45)) (↑(s.extract 1 (↑s.size : Int).toNat).size : Int) 0) else False else GoodL Tryz.prog n0 35 K (headAt (fnT Tryz.f35) 6) (xparts_s6_1 s (decide ((↑(s.data.toList.getD 0 0).toNat : Int) = 45)) (↑s.size : Int) 0) else False) := by kernel_rfl
set_option maxRecDepth 1000000 in
theorem xparts_s6_0_E (s : ByteArray) (x0 : ByteArray) (x1 : Bool) (x2 : Int) (x3 : Int) (n0 : Nat) (K : AV → List HObj → Prop) :
    execN tab (mixE tab con0 [] 400) (maskN xparts_live xparts_nils (GoodL Tryz.prog n0 35 K)) (finK tab (fnT Tryz.f35).res K) 400 (roundAt (fnT Tryz.f35) 6) (xparts_s6_0 s x0 x1 x2 x3) =
    (bif decide (x3 < x2) then bif decide (0 ≤ x3) && decide (x3 < (↑x0.size : Int)) then bif decide ((↑(x0.data.toList.getD x3.toNat 0).toNat : Int) = 47) then bif decide (0 ≤ x3) && decide (x3 ≤ (↑x0.size : Int)) then bif decide (0 ≤ IntKind.i64.wrap (x3 + 1)) && decide (IntKind.i64.wrap (x3 + 1) ≤ (↑x0.size : Int)) && decide ((↑x0.size : Int) ≤ (↑x0.size : Int)) then K (AV.tup [AV.bool x1, AV.str (x0.extract 0 x3.toNat), AV.str (x0.extract (IntKind.i64.wrap (x3 + 1)).toNat (↑x0.size : Int).toNat)]) [] else False else False else GoodL Tryz.prog n0 35 K (headAt (fnT Tryz.f35) 6) (xparts_s6_0 s x0 x1 x2 (IntKind.i64.wrap (x3 + 1))) else False else K (AV.tup [AV.bool x1, AV.str x0, AV.str (ByteArray.mk #[49])]) []) := by kernel_rfl
set_option maxRecDepth 1000000 in
theorem xparts_s6_1_E (s : ByteArray) (x0 : Bool) (x1 : Int) (x2 : Int) (n0 : Nat) (K : AV → List HObj → Prop) :
    execN tab (mixE tab con0 [] 400) (maskN xparts_live xparts_nils (GoodL Tryz.prog n0 35 K)) (finK tab (fnT Tryz.f35).res K) 400 (roundAt (fnT Tryz.f35) 6) (xparts_s6_1 s x0 x1 x2) =
    (bif decide (x2 < x1) then bif decide (0 ≤ x2) && decide (x2 < (↑s.size : Int)) then bif decide ((↑(s.data.toList.getD x2.toNat 0).toNat : Int) = 47) then bif decide (0 ≤ x2) && decide (x2 ≤ (↑s.size : Int)) then bif decide (0 ≤ IntKind.i64.wrap (x2 + 1)) && decide (IntKind.i64.wrap (x2 + 1) ≤ (↑s.size : Int)) && decide ((↑s.size : Int) ≤ (↑s.size : Int)) then K (AV.tup [AV.bool x0, AV.str (s.extract 0 x2.toNat), AV.str (s.extract (IntKind.i64.wrap (x2 + 1)).toNat (↑s.size : Int).toNat)]) [] else False else False else GoodL Tryz.prog n0 35 K (headAt (fnT Tryz.f35) 6) (xparts_s6_1 s x0 x1 (IntKind.i64.wrap (x2 + 1))) else False else K (AV.tup [AV.bool x0, AV.str s, AV.str (ByteArray.mk #[49])]) []) := by kernel_rfl
def xcanon_live : List (Nat × List Nat) := []
def xcanon_nils : List (Nat × ETy) := []
set_option maxRecDepth 1000000 in
theorem xcanon_E (neg : Bool) (n : ByteArray) (d : ByteArray) (n0 : Nat) (K : AV → List HObj → Prop) :
    execN tab (mixE tab conX1 [] 400) (maskN xcanon_live xcanon_nils (GoodL Tryz.prog n0 37 K)) (finK tab (fnT Tryz.f37).res K) 400 [.code (fnT Tryz.f37).body] ⟨initEnv (fnT Tryz.f37).n [AV.bool neg, AV.str n, AV.str d], []⟩ =
    (bif n.toList == (ByteArray.mk #[48]).toList then K (AV.str (ByteArray.mk #[48])) [] else ∃ u v, n = Sem.natText u ∧ d = Sem.natText v ∧ Sem.dg u ≤ 9000000000 ∧ Sem.dg v ≤ 9000000000 ∧ ∃ u_1 v_1, n = Sem.natText u_1 ∧ Sem.natText (u.gcd v) = Sem.natText v_1 ∧ Sem.dg u_1 ≤ 9000000000 ∧ Sem.dg v_1 ≤ 9000000000 ∧ 0 < v_1 ∧ ∃ u_2 v_2, d = Sem.natText u_2 ∧ Sem.natText (u.gcd v) = Sem.natText v_2 ∧ Sem.dg u_2 ≤ 9000000000 ∧ Sem.dg v_2 ≤ 9000000000 ∧ 0 < v_2 ∧ bif neg then bif decide (1 + (Sem.natText (u_1 / v_1)).size ≤ 9223372036854775807) then bif (Sem.natText (u_2 / v_2)).toList == (ByteArray.mk #[49]).toList then K (AV.str (ByteArray.mk #[45] ++ Sem.natText (u_1 / v_1))) [] else bif decide ((ByteArray.mk #[45] ++ Sem.natText (u_1 / v_1)).size + 1 ≤ 9223372036854775807) then bif decide ((ByteArray.mk #[45] ++ Sem.natText (u_1 / v_1) ++ ByteArray.mk #[47]).size + (Sem.natText (u_2 / v_2)).size ≤ 9223372036854775807) then K (AV.str (ByteArray.mk #[45] ++ Sem.natText (u_1 / v_1) ++ ByteArray.mk #[47] ++ Sem.natText (u_2 / v_2))) [] else False else False else False else bif (Sem.natText (u_2 / v_2)).toList == (ByteArray.mk #[49]).toList then K (AV.str (Sem.natText (u_1 / v_1))) [] else bif decide ((Sem.natText (u_1 / v_1)).size + 1 ≤ 9223372036854775807) then bif decide ((Sem.natText (u_1 / v_1) ++ ByteArray.mk #[47]).size + (Sem.natText (u_2 / v_2)).size ≤ 9223372036854775807) then K (AV.str (Sem.natText (u_1 / v_1) ++ ByteArray.mk #[47] ++ Sem.natText (u_2 / v_2))) [] else False else False) := by kernel_rfl
def xerr_live : List (Nat × List Nat) := [(6, [3, 4, 5, 6, 7, 24, 25])]
def xerr_nils : List (Nat × ETy) := []
noncomputable def xerr_s6_0 (s : ByteArray) (x0 : ByteArray) (x1 : Int) (x2 : ByteArray) (x3 : ByteArray) (x4 : Int) (x5 : Int) : St := stOf 86 [(3, AV.str x0), (4, AV.bool true), (5, AV.int IntKind.i64 x1), (6, AV.str x2), (7, AV.str x3), (24, AV.int IntKind.i64 x4), (25, AV.int IntKind.i64 x5)] []
noncomputable def xerr_s6_1 (s : ByteArray) (x0 : Int) (x1 : ByteArray) (x2 : Int) (x3 : Int) : St := stOf 86 [(3, AV.str s), (4, AV.bool false), (5, AV.int IntKind.i64 x0), (6, AV.str s), (7, AV.str x1), (24, AV.int IntKind.i64 x2), (25, AV.int IntKind.i64 x3)] []
noncomputable def xerr_s6_2 (s : ByteArray) (x0 : Int) (x1 : ByteArray) (x2 : ByteArray) (x3 : Int) (x4 : Int) : St := stOf 86 [(3, AV.str s), (4, AV.bool false), (5, AV.int IntKind.i64 x0), (6, AV.str x1), (7, AV.str x2), (24, AV.int IntKind.i64 x3), (25, AV.int IntKind.i64 x4)] []
set_option maxRecDepth 1000000 in
theorem xerr_E (s : ByteArray) (n0 : Nat) (K : AV → List HObj → Prop) :
    execN tab (mixE tab conX1 [] 400) (maskN xerr_live xerr_nils (GoodL Tryz.prog n0 73 K)) (finK tab (fnT Tryz.f73).res K) 400 [.code (fnT Tryz.f73).body] ⟨initEnv (fnT Tryz.f73).n [AV.str s], []⟩ =
    (bif decide ((↑s.size : Int) > 0) then bif decide (0 < (↑s.size : Int)) then bif bif true then decide ((↑(s.data.toList.getD 0 0).toNat : Int) = 45) else false then bif decide (1 ≤ (↑s.size : Int)) && decide ((↑s.size : Int) ≤ (↑s.size : Int)) then GoodL Tryz.prog n0 73 K (headAt (fnT Tryz.f73) 6) (xerr_s6_0 s (s.extract 1 (↑s.size : Int).toNat) 1 (s.extract 1 (↑s.size : Int).toNat) (ByteArray.mk #[50]) (↑(s.extract 1 (↑s.size : Int).toNat).size : Int) 0) else False else GoodL Tryz.prog n0 73 K (headAt (fnT Tryz.f73) 6) (xerr_s6_1 s 1 (ByteArray.mk #[50]) (↑s.size : Int) 0) else False else GoodL Tryz.prog n0 73 K (headAt (fnT Tryz.f73) 6) (xerr_s6_1 s 1 (ByteArray.mk #[50]) (↑s.size : Int) 0)) := by kernel_rfl
set_option maxRecDepth 1000000 in
theorem xerr_s6_0_E (s : ByteArray) (x0 : ByteArray) (x1 : Int) (x2 : ByteArray) (x3 : ByteArray) (x4 : Int) (x5 : Int) (n0 : Nat) (K : AV → List HObj → Prop) :
    execN tab (mixE tab conX1 [] 400) (maskN xerr_live xerr_nils (GoodL Tryz.prog n0 73 K)) (finK tab (fnT Tryz.f73).res K) 400 (roundAt (fnT Tryz.f73) 6) (xerr_s6_0 s x0 x1 x2 x3 x4 x5) =
    (bif decide (x5 < x4) then bif decide (0 ≤ x5) && decide (x5 < (↑x0.size : Int)) then bif decide ((↑(x0.data.toList.getD x5.toNat 0).toNat : Int) = 47) then bif bif true then decide (x1 = 1) else false then bif decide (0 ≤ x5) && decide (x5 ≤ (↑x0.size : Int)) then bif decide (0 ≤ IntKind.i64.wrap (x5 + 1)) && decide (IntKind.i64.wrap (x5 + 1) ≤ (↑x0.size : Int)) && decide ((↑x0.size : Int) ≤ (↑x0.size : Int)) then GoodL Tryz.prog n0 73 K (headAt (fnT Tryz.f73) 6) (xerr_s6_0 s x0 2 (x0.extract 0 x5.toNat) (x0.extract (IntKind.i64.wrap (x5 + 1)).toNat (↑x0.size : Int).toNat) x4 (IntKind.i64.wrap (x5 + 1))) else False else False else GoodL Tryz.prog n0 73 K (headAt (fnT Tryz.f73) 6) (xerr_s6_0 s x0 x1 x2 x3 x4 (IntKind.i64.wrap (x5 + 1))) else GoodL Tryz.prog n0 73 K (headAt (fnT Tryz.f73) 6) (xerr_s6_0 s x0 x1 x2 x3 x4 (IntKind.i64.wrap (x5 + 1))) else False else x2.size ≤ 1000000000000000 ∧ x3.size ≤ 1000000000000000 ∧ bif decide (Pure.natErr x2 = 5) then K (AV.int IntKind.i64 5) [] else bif bif false then true else decide (Pure.natErr x3 = 5) then K (AV.int IntKind.i64 5) [] else bif bif false then true else bif true then x2.toList == (ByteArray.mk #[48]).toList else false then K (AV.int IntKind.i64 5) [] else bif !decide (Pure.natErr x2 = 0) then K (AV.int IntKind.i64 2) [] else bif bif false then true else !decide (Pure.natErr x3 = 0) then K (AV.int IntKind.i64 2) [] else bif decide (x1 = 2) then bif x3.toList == (ByteArray.mk #[48]).toList then K (AV.int IntKind.i64 3) [] else bif bif false then true else x3.toList == (ByteArray.mk #[49]).toList then K (AV.int IntKind.i64 3) [] else ∃ u v, x2 = Sem.natText u ∧ x3 = Sem.natText v ∧ Sem.dg u ≤ 9000000000 ∧ Sem.dg v ≤ 9000000000 ∧ bif bif true then bif false then true else !(Sem.natText (u.gcd v)).toList == (ByteArray.mk #[49]).toList else false then K (AV.int IntKind.i64 3) [] else K (AV.int IntKind.i64 0) [] else K (AV.int IntKind.i64 0) []) := by kernel_rfl
set_option maxRecDepth 1000000 in
theorem xerr_s6_1_E (s : ByteArray) (x0 : Int) (x1 : ByteArray) (x2 : Int) (x3 : Int) (n0 : Nat) (K : AV → List HObj → Prop) :
    execN tab (mixE tab conX1 [] 400) (maskN xerr_live xerr_nils (GoodL Tryz.prog n0 73 K)) (finK tab (fnT Tryz.f73).res K) 400 (roundAt (fnT Tryz.f73) 6) (xerr_s6_1 s x0 x1 x2 x3) =
    (bif decide (x3 < x2) then bif decide (0 ≤ x3) && decide (x3 < (↑s.size : Int)) then bif decide ((↑(s.data.toList.getD x3.toNat 0).toNat : Int) = 47) then bif bif true then decide (x0 = 1) else false then bif decide (0 ≤ x3) && decide (x3 ≤ (↑s.size : Int)) then bif decide (0 ≤ IntKind.i64.wrap (x3 + 1)) && decide (IntKind.i64.wrap (x3 + 1) ≤ (↑s.size : Int)) && decide ((↑s.size : Int) ≤ (↑s.size : Int)) then GoodL Tryz.prog n0 73 K (headAt (fnT Tryz.f73) 6) (xerr_s6_2 s 2 (s.extract 0 x3.toNat) (s.extract (IntKind.i64.wrap (x3 + 1)).toNat (↑s.size : Int).toNat) x2 (IntKind.i64.wrap (x3 + 1))) else False else False else GoodL Tryz.prog n0 73 K (headAt (fnT Tryz.f73) 6) (xerr_s6_1 s x0 x1 x2 (IntKind.i64.wrap (x3 + 1))) else GoodL Tryz.prog n0 73 K (headAt (fnT Tryz.f73) 6) (xerr_s6_1 s x0 x1 x2 (IntKind.i64.wrap (x3 + 1))) else False else s.size ≤ 1000000000000000 ∧ x1.size ≤ 1000000000000000 ∧ bif decide (Pure.natErr s = 5) then K (AV.int IntKind.i64 5) [] else bif bif false then true else decide (Pure.natErr x1 = 5) then K (AV.int IntKind.i64 5) [] else bif !decide (Pure.natErr s = 0) then K (AV.int IntKind.i64 2) [] else bif bif false then true else !decide (Pure.natErr x1 = 0) then K (AV.int IntKind.i64 2) [] else bif decide (x0 = 2) then bif x1.toList == (ByteArray.mk #[48]).toList then K (AV.int IntKind.i64 3) [] else bif bif false then true else x1.toList == (ByteArray.mk #[49]).toList then K (AV.int IntKind.i64 3) [] else ∃ u v, s = Sem.natText u ∧ x1 = Sem.natText v ∧ Sem.dg u ≤ 9000000000 ∧ Sem.dg v ≤ 9000000000 ∧ bif bif true then bif false then true else !(Sem.natText (u.gcd v)).toList == (ByteArray.mk #[49]).toList else false then K (AV.int IntKind.i64 3) [] else K (AV.int IntKind.i64 0) [] else K (AV.int IntKind.i64 0) []) := by kernel_rfl
set_option maxRecDepth 1000000 in
theorem xerr_s6_2_E (s : ByteArray) (x0 : Int) (x1 : ByteArray) (x2 : ByteArray) (x3 : Int) (x4 : Int) (n0 : Nat) (K : AV → List HObj → Prop) :
    execN tab (mixE tab conX1 [] 400) (maskN xerr_live xerr_nils (GoodL Tryz.prog n0 73 K)) (finK tab (fnT Tryz.f73).res K) 400 (roundAt (fnT Tryz.f73) 6) (xerr_s6_2 s x0 x1 x2 x3 x4) =
    (bif decide (x4 < x3) then bif decide (0 ≤ x4) && decide (x4 < (↑s.size : Int)) then bif decide ((↑(s.data.toList.getD x4.toNat 0).toNat : Int) = 47) then bif bif true then decide (x0 = 1) else false then bif decide (0 ≤ x4) && decide (x4 ≤ (↑s.size : Int)) then bif decide (0 ≤ IntKind.i64.wrap (x4 + 1)) && decide (IntKind.i64.wrap (x4 + 1) ≤ (↑s.size : Int)) && decide ((↑s.size : Int) ≤ (↑s.size : Int)) then GoodL Tryz.prog n0 73 K (headAt (fnT Tryz.f73) 6) (xerr_s6_2 s 2 (s.extract 0 x4.toNat) (s.extract (IntKind.i64.wrap (x4 + 1)).toNat (↑s.size : Int).toNat) x3 (IntKind.i64.wrap (x4 + 1))) else False else False else GoodL Tryz.prog n0 73 K (headAt (fnT Tryz.f73) 6) (xerr_s6_2 s x0 x1 x2 x3 (IntKind.i64.wrap (x4 + 1))) else GoodL Tryz.prog n0 73 K (headAt (fnT Tryz.f73) 6) (xerr_s6_2 s x0 x1 x2 x3 (IntKind.i64.wrap (x4 + 1))) else False else x1.size ≤ 1000000000000000 ∧ x2.size ≤ 1000000000000000 ∧ bif decide (Pure.natErr x1 = 5) then K (AV.int IntKind.i64 5) [] else bif bif false then true else decide (Pure.natErr x2 = 5) then K (AV.int IntKind.i64 5) [] else bif !decide (Pure.natErr x1 = 0) then K (AV.int IntKind.i64 2) [] else bif bif false then true else !decide (Pure.natErr x2 = 0) then K (AV.int IntKind.i64 2) [] else bif decide (x0 = 2) then bif x2.toList == (ByteArray.mk #[48]).toList then K (AV.int IntKind.i64 3) [] else bif bif false then true else x2.toList == (ByteArray.mk #[49]).toList then K (AV.int IntKind.i64 3) [] else ∃ u v, x1 = Sem.natText u ∧ x2 = Sem.natText v ∧ Sem.dg u ≤ 9000000000 ∧ Sem.dg v ≤ 9000000000 ∧ bif bif true then bif false then true else !(Sem.natText (u.gcd v)).toList == (ByteArray.mk #[49]).toList else false then K (AV.int IntKind.i64 3) [] else K (AV.int IntKind.i64 0) [] else K (AV.int IntKind.i64 0) []) := by kernel_rfl
def xerrs_live : List (Nat × List Nat) := [(2, [6, 7, 8])]
def xerrs_nils : List (Nat × ETy) := [(6, ETy.one CTy.str)]
noncomputable def xerrs_s2_0 (l : List ByteArray) (x0 : Int) (x1 : Int) : St := stOf 18 [(6, AV.imm (ETy.one CTy.str) l), (7, AV.int IntKind.i64 x0), (8, AV.int IntKind.i64 x1)] []
set_option maxRecDepth 1000000 in
theorem xerrs_E (l : List ByteArray) (n0 : Nat) (K : AV → List HObj → Prop) :
    execN tab (mixE tab conX3 [] 400) (maskN xerrs_live xerrs_nils (GoodL Tryz.prog n0 47 K)) (finK tab (fnT Tryz.f47).res K) 400 [.code (fnT Tryz.f47).body] ⟨initEnv (fnT Tryz.f47).n [AV.imm (ETy.one CTy.str) l], []⟩ =
    (GoodL Tryz.prog n0 47 K (headAt (fnT Tryz.f47) 2) (xerrs_s2_0 l (↑l.length : Int) 0)) := by kernel_rfl
set_option maxRecDepth 1000000 in
theorem xerrs_s2_0_E (l : List ByteArray) (x0 : Int) (x1 : Int) (n0 : Nat) (K : AV → List HObj → Prop) :
    execN tab (mixE tab conX3 [] 400) (maskN xerrs_live xerrs_nils (GoodL Tryz.prog n0 47 K)) (finK tab (fnT Tryz.f47).res K) 400 (roundAt (fnT Tryz.f47) 2) (xerrs_s2_0 l x0 x1) =
    (bif decide (x1 < x0) then bif decide (0 ≤ x1) && decide (x1 < (↑l.length : Int)) then Tx (l.getD x1.toNat ByteArray.empty) ∧ bif !decide (ratErr (l.getD x1.toNat ByteArray.empty) = 0) then K (AV.int IntKind.i64 (ratErr (l.getD x1.toNat ByteArray.empty))) [] else GoodL Tryz.prog n0 47 K (headAt (fnT Tryz.f47) 2) (xerrs_s2_0 l x0 (IntKind.i64.wrap (x1 + 1))) else False else K (AV.int IntKind.i64 0) []) := by kernel_rfl
def xneg_live : List (Nat × List Nat) := []
def xneg_nils : List (Nat × ETy) := []
set_option maxRecDepth 1000000 in
theorem xneg_E (s : ByteArray) (n0 : Nat) (K : AV → List HObj → Prop) :
    execN tab (mixE tab conX2 [] 400) (maskN xneg_live xneg_nils (GoodL Tryz.prog n0 41 K)) (finK tab (fnT Tryz.f41).res K) 400 [.code (fnT Tryz.f41).body] ⟨initEnv (fnT Tryz.f41).n [AV.str s], []⟩ =
    (∃ q, s = Sem.ratText q ∧ Sz 9000000000 q ∧ ∃ u v, Sem.natText q.num.natAbs = Sem.natText u ∧ Sem.natText q.den = Sem.natText v ∧ 0 < v ∧ Sem.dg u ≤ 9000000000 ∧ Sem.dg v ≤ 9000000000 ∧ K (AV.str (Sem.ratText (Sem.mkq (!decide (q.num < 0)) u v))) []) := by kernel_rfl
def xadd_live : List (Nat × List Nat) := []
def xadd_nils : List (Nat × ETy) := []
set_option maxRecDepth 1000000 in
theorem xadd_E (s : ByteArray) (t : ByteArray) (n0 : Nat) (K : AV → List HObj → Prop) :
    execN tab (mixE tab conX2 [] 400) (maskN xadd_live xadd_nils (GoodL Tryz.prog n0 11 K)) (finK tab (fnT Tryz.f11).res K) 400 [.code (fnT Tryz.f11).body] ⟨initEnv (fnT Tryz.f11).n [AV.str s, AV.str t], []⟩ =
    (∃ q, s = Sem.ratText q ∧ Sz 9000000000 q ∧ ∃ q_1, t = Sem.ratText q_1 ∧ Sz 9000000000 q_1 ∧ ∃ u v, Sem.natText q.num.natAbs = Sem.natText u ∧ Sem.natText q_1.den = Sem.natText v ∧ Sem.dg u ≤ 5000000000 ∧ Sem.dg v ≤ 5000000000 ∧ ∃ u_1 v_1, Sem.natText q_1.num.natAbs = Sem.natText u_1 ∧ Sem.natText q.den = Sem.natText v_1 ∧ Sem.dg u_1 ≤ 5000000000 ∧ Sem.dg v_1 ≤ 5000000000 ∧ ∃ u_2 v_2, Sem.natText q.den = Sem.natText u_2 ∧ Sem.natText q_1.den = Sem.natText v_2 ∧ Sem.dg u_2 ≤ 5000000000 ∧ Sem.dg v_2 ≤ 5000000000 ∧ bif decide (q.num < 0) == decide (q_1.num < 0) then ∃ u_3 v_3, Sem.natText (u * v) = Sem.natText u_3 ∧ Sem.natText (u_1 * v_1) = Sem.natText v_3 ∧ Sem.dg u_3 ≤ 10000000000 ∧ Sem.dg v_3 ≤ 10000000000 ∧ ∃ u v, Sem.natText (u_3 + v_3) = Sem.natText u ∧ Sem.natText (u_2 * v_2) = Sem.natText v ∧ 0 < v ∧ Sem.dg u ≤ 9000000000 ∧ Sem.dg v ≤ 9000000000 ∧ K (AV.str (Sem.ratText (Sem.mkq (decide (q.num < 0)) u v))) [] else ∃ u_3 v_3, Sem.natText (u * v) = Sem.natText u_3 ∧ Sem.natText (u_1 * v_1) = Sem.natText v_3 ∧ bif decide (Pure.cmpI (↑u_3 : Int) (↑v_3 : Int) < 0) then ∃ u_4 v_4, Sem.natText (u_1 * v_1) = Sem.natText u_4 ∧ Sem.natText (u * v) = Sem.natText v_4 ∧ Sem.dg u_4 ≤ 10000000000 ∧ v_4 ≤ u_4 ∧ ∃ u v, Sem.natText (u_4 - v_4) = Sem.natText u ∧ Sem.natText (u_2 * v_2) = Sem.natText v ∧ 0 < v ∧ Sem.dg u ≤ 9000000000 ∧ Sem.dg v ≤ 9000000000 ∧ K (AV.str (Sem.ratText (Sem.mkq (decide (q_1.num < 0)) u v))) [] else ∃ u_4 v_4, Sem.natText (u * v) = Sem.natText u_4 ∧ Sem.natText (u_1 * v_1) = Sem.natText v_4 ∧ Sem.dg u_4 ≤ 10000000000 ∧ v_4 ≤ u_4 ∧ ∃ u v, Sem.natText (u_4 - v_4) = Sem.natText u ∧ Sem.natText (u_2 * v_2) = Sem.natText v ∧ 0 < v ∧ Sem.dg u ≤ 9000000000 ∧ Sem.dg v ≤ 9000000000 ∧ K (AV.str (Sem.ratText (Sem.mkq (decide (q.num < 0)) u v))) []) := by kernel_rfl
def xsub_live : List (Nat × List Nat) := []
def xsub_nils : List (Nat × ETy) := []
set_option maxRecDepth 1000000 in
theorem xsub_E (s : ByteArray) (t : ByteArray) (n0 : Nat) (K : AV → List HObj → Prop) :
    execN tab (mixE tab conX3 [] 400) (maskN xsub_live xsub_nils (GoodL Tryz.prog n0 12 K)) (finK tab (fnT Tryz.f12).res K) 400 [.code (fnT Tryz.f12).body] ⟨initEnv (fnT Tryz.f12).n [AV.str s, AV.str t], []⟩ =
    (∃ q, t = Sem.ratText q ∧ Sz 4000000000 q ∧ ∃ x y, s = Sem.ratText x ∧ Sem.ratText (-q) = Sem.ratText y ∧ Sz 4000000000 x ∧ Sz 4000000000 y ∧ K (AV.str (Sem.ratText (x + y))) []) := by kernel_rfl
def xdiv_live : List (Nat × List Nat) := []
def xdiv_nils : List (Nat × ETy) := []
set_option maxRecDepth 1000000 in
theorem xdiv_E (s : ByteArray) (t : ByteArray) (n0 : Nat) (K : AV → List HObj → Prop) :
    execN tab (mixE tab conX2 [] 400) (maskN xdiv_live xdiv_nils (GoodL Tryz.prog n0 16 K)) (finK tab (fnT Tryz.f16).res K) 400 [.code (fnT Tryz.f16).body] ⟨initEnv (fnT Tryz.f16).n [AV.str s, AV.str t], []⟩ =
    (∃ q, s = Sem.ratText q ∧ Sz 9000000000 q ∧ ∃ q_1, t = Sem.ratText q_1 ∧ Sz 9000000000 q_1 ∧ ∃ u v, Sem.natText q.num.natAbs = Sem.natText u ∧ Sem.natText q_1.den = Sem.natText v ∧ Sem.dg u ≤ 5000000000 ∧ Sem.dg v ≤ 5000000000 ∧ ∃ u_1 v_1, Sem.natText q.den = Sem.natText u_1 ∧ Sem.natText q_1.num.natAbs = Sem.natText v_1 ∧ Sem.dg u_1 ≤ 5000000000 ∧ Sem.dg v_1 ≤ 5000000000 ∧ ∃ u_2 v_2, Sem.natText (u * v) = Sem.natText u_2 ∧ Sem.natText (u_1 * v_1) = Sem.natText v_2 ∧ 0 < v_2 ∧ Sem.dg u_2 ≤ 9000000000 ∧ Sem.dg v_2 ≤ 9000000000 ∧ K (AV.str (Sem.ratText (Sem.mkq (!decide (q.num < 0) == decide (q_1.num < 0)) u_2 v_2))) []) := by kernel_rfl
def xsign_live : List (Nat × List Nat) := []
def xsign_nils : List (Nat × ETy) := []
set_option maxRecDepth 1000000 in
theorem xsign_E (s : ByteArray) (n0 : Nat) (K : AV → List HObj → Prop) :
    execN tab (mixE tab conX2 [] 400) (maskN xsign_live xsign_nils (GoodL Tryz.prog n0 15 K)) (finK tab (fnT Tryz.f15).res K) 400 [.code (fnT Tryz.f15).body] ⟨initEnv (fnT Tryz.f15).n [AV.str s], []⟩ =
    (∃ q, s = Sem.ratText q ∧ Sz 9000000000 q ∧ bif (Sem.natText q.num.natAbs).toList == (ByteArray.mk #[48]).toList then K (AV.int IntKind.i64 0) [] else bif decide (q.num < 0) then K (AV.int IntKind.i64 (-1)) [] else K (AV.int IntKind.i64 1) []) := by kernel_rfl
end Go.Proofs.YtnjbabkfdcdkbaaGreatDoor.Mach
end
section
/- The reference of package rat: parts, Canon, RatNeg .. : the contracts hold. -/
set_option linter.unusedVariables false
set_option linter.unusedSimpArgs false
namespace Go.Proofs.YtnjbabkfdcdkbaaGreatDoor.Lib
open Go Go.Proofs.YtnjbabkfdcdkbaaGreatDoor.Mach Go.Proofs.YtnjbabkfdcdkbaaGreatDoorW.PrintWords Go.Proofs.YtnjbabkfdcdkbaaGreatDoor.Sem Go.Proofs.YtnjbabkfdcdkbaaGreatDoor.Pure
theorem res_str {Q : Res} {s : ByteArray} {H : List HObj} (h : Q (.str s) []) : resK Q (.str s) H := res_plain h rfl rfl
theorem res_int {Q : Res} {k : IntKind} {n : Int} {H : List HObj} (h : Q (.int k n) []) : resK Q (.int k n) H := res_plain h rfl rfl
theorem res_bool {Q : Res} {n : Bool} {H : List HObj} (h : Q (.bool n) []) : resK Q (.bool n) H := res_plain h rfl rfl
theorem getD_at (s : ByteArray) (i : Nat) (h : i < s.size) : s[i]! = s.data.toList.getD i 0 := by
  rw [at_get s i h, List.getD_eq_getElem?_getD, List.getD_eq_getElem?_getD, List.getElem?_eq_getElem (by rw [Array.length_toList]; exact h)]
  rfl
theorem fi_at {s : ByteArray} {i : Nat} (hi : i < s.size) (h : s.data.toList.getD i 0 = 47) : 0 ≤ firstIdx s 47 ∧ firstIdx s 47 ≤ i := by
  rw [← getD_at s i hi] at h
  unfold firstIdx
  split
  · rename_i j hj
    obtain ⟨h1, h2, h3⟩ := List.find?_range_eq_some.1 hj
    refine ⟨by omega, ?_⟩
    have : j ≤ i := Nat.le_of_not_lt fun hl => by
      have := h3 i hl
      rw [h] at this
      simp at this
    omega
  · rename_i hn
    have := (List.find?_eq_none.1 hn) i (by simpa using hi)
    rw [h] at this
    simp at this
theorem fi_ne {s : ByteArray} {i : Nat} (hi : i < s.size) (h : s.data.toList.getD i 0 ≠ 47) : firstIdx s 47 ≠ i := by
  rw [← getD_at s i hi] at h
  unfold firstIdx
  split
  · rename_i j hj
    obtain ⟨h1, h2, h3⟩ := List.find?_range_eq_some.1 hj
    intro he
    have : j = i := by omega
    rw [this] at h1
    exact h (by simpa using h1)
  · omega
theorem b47 {s : ByteArray} {i : Nat} : (((s.data.toList.getD i 0).toNat : Int) = 47) ↔ s.data.toList.getD i 0 = 47 :=
  ⟨fun h => by have : (s.data.toList.getD i 0).toNat = (47 : UInt8).toNat := by rw [show (47 : UInt8).toNat = 47 from rfl]; omega
               exact UInt8.toNat_inj.1 this, fun h => by rw [h]; rfl⟩
theorem b45 {s : ByteArray} (hs : 0 < s.size) : (((s.data.toList.getD 0 0).toNat : Int) = 45) ↔ preB s = true := by
  unfold preB
  rw [decide_eq_true (show 1 ≤ s.size by omega), cond_true, beq_iff_eq, ByteArray.toList_eq, ByteArray.toList_eq, ByteArray.data_extract, Array.toList_extract, List.extract_eq_take_drop]
  have hl : s.data.toList.length = s.size := by rw [Array.length_toList]; rfl
  match hd : s.data.toList with
  | [] => rw [hd] at hl; simp at hl; omega
  | c :: r =>
    simp only [List.getD_cons_zero, List.drop_zero, Nat.sub_zero, List.take_succ_cons, List.take_zero, List.cons.injEq, and_true]
    exact ⟨fun h => UInt8.toNat_inj.1 (by rw [show (45 : UInt8).toNat = 45 from rfl]; omega), fun h => by rw [h]; rfl⟩
theorem parts_loop (r : ByteArray) (hr : r.size ≤ 1000000000000) {S : Nat → St} {f : FuncId} {gn : FnT} (hg : find tab.fn f = some gn) {LT : List (Nat × List Nat)} {NT : List (Nat × ETy)} {C : FuncId → List AV → Res → Prop} (hC : ∀ g xs Q, C g xs Q → Con Tryz.prog g xs Q) {K : Res} {n0 reg : Nat} {A B : Prop}
    (hE : ∀ x : Nat, x ≤ r.size → (bif decide ((x : Int) < (r.size : Int)) then (bif decide (((r.data.toList.getD x 0).toNat : Int) = 47) then (firstIdx r 47 = x ∧ A) else GoodL Tryz.prog n0 f K (headAt gn reg) (S (x + 1))) else B) → execN tab (mixE tab C [] 400) (maskN LT NT (GoodL Tryz.prog n0 f K)) (finK tab gn.res K) 400 (roundAt gn reg) (S x))
    (hA : cutI r = true → A) (hB : cutI r = false → B) : GoodL Tryz.prog n0 f K (headAt gn reg) (S 0) := by
  refine loopN hg hC (inl := []) (LT := LT) (NT := NT) (S := S) (fun x => r.size - x) (fun x => x ≤ r.size ∧ (firstIdx r 47 < 0 ∨ (x : Int) ≤ firstIdx r 47)) (fun x hp ih => hE x hp.1 ?_) 0 ⟨Nat.zero_le _, by omega⟩
  obtain ⟨hp, hq⟩ := hp
  have hl := firstIdx_lt r 47
  by_cases hx : x < r.size
  · refine bif_pos (by omega) ?_
    by_cases h47 : r.data.toList.getD x 0 = 47
    · have := fi_at hx h47
      refine bif_pos (b47.2 h47) ⟨by omega, hA ?_⟩
      unfold cutI
      exact decide_eq_true (by omega)
    · refine bif_neg (fun h => h47 (b47.1 h)) (ih (x + 1) ⟨by omega, ?_⟩ (by omega))
      have := fi_ne hx h47
      omega
  · refine bif_neg (by omega) (hB ?_)
    unfold cutI
    exact decide_eq_false (by omega)
theorem preR_neg {s : ByteArray} (h : preB s = true) : preR s = s.extract 1 s.size := by unfold preR; rw [h]; rfl
theorem preR_pos {s : ByteArray} (h : ¬ preB s = true) : preR s = s := by
  unfold preR
  cases hb : preB s
  · rfl
  · exact absurd hb h
theorem cut_parts {r : ByteArray} {x : Nat} (he : firstIdx r 47 = x) : r.extract 0 x = cutA r ∧ r.extract (x + 1) r.size = cutB r := by
  have hI : cutI r = true := by unfold cutI; exact decide_eq_true (by omega)
  unfold cutA cutB
  rw [hI, he, Int.toNat_natCast]
  exact ⟨rfl, rfl⟩
theorem parts_con {s : ByteArray} {Q : Res} (h : partsS s Q) : Con Tryz.prog 35 [.str s] Q := by
  obtain ⟨q, rfl, sq, hq⟩ := h
  refine conN (gn := fnT Tryz.f35) (by kernel_rfl) con0_ok (inl := []) (LT := xparts_live) (NT := xparts_nils) rfl fun n0 => ?_
  rw [xparts_E]
  obtain ⟨p1, p2, p3, p4⟩ := rt_parts (decide (q.num < 0)) q.num.natAbs q.den
  have hs := text_size q
  have hp := dg_pos q.num.natAbs
  have e1 := sz_n sq
  have e2 := sz_d sq
  have e3 : szN q = dg q.num.natAbs := rfl
  have e4 : szD q = dg q.den := rfl
  have hr := preR_le (ratText q)
  change preB (ratText q) = _ at p1
  change cutA (preR (ratText q)) = _ at p2
  change cutI (preR (ratText q)) = _ at p3
  change q.den ≠ 1 → cutB (preR (ratText q)) = _ at p4
  generalize ratText q = s at *
  have hA : ∀ b r, b = decide (q.num < 0) → r = preR s → cutI r = true → resK Q (.tup [.bool b, .str (cutA r), .str (cutB r)]) [] := by
    rintro b r rfl rfl hI
    rw [p3] at hI
    rw [p2, p4 (of_decide_eq_true hI)]
    exact res_plain hq rfl rfl
  have hB : ∀ b r, b = decide (q.num < 0) → r = preR s → cutI r = false → resK Q (.tup [.bool b, .str r, .str ⟨#[49]⟩]) [] := by
    rintro b r rfl rfl hI
    have ha : cutA (preR s) = preR s := by unfold cutA; rw [hI]; rfl
    rw [p3] at hI
    have h1 : q.den = 1 := by simpa using hI
    rw [h1, natText_one] at hq
    rw [← ha, p2]
    exact res_plain hq rfl rfl
  refine bif_pos (by omega) ?_
  by_cases hb : preB s = true
  · refine bif_pos ((b45 (by omega)).2 hb) ?_
    refine bif_and (bif_pos (by omega) (bif_pos (by omega) ?_))
    rw [decide_eq_true ((b45 (by omega)).2 hb), Int.toNat_natCast, ← preR_neg hb]
    have hbb : true = decide (q.num < 0) := by rw [← p1, hb]
    refine parts_loop (preR s) (by omega) (S := fun x : Nat => xparts_s6_0 s (preR s) true ((preR s).size : Int) (x : Int)) (by kernel_rfl) (LT := xparts_live) (NT := xparts_nils) con0_ok (fun x hx h => ?_) (hA true (preR s) hbb rfl) (hB true (preR s) hbb rfl)
    rw [xparts_s6_0_E]
    by_cases hlt : x < (preR s).size
    · refine bif_pos (by omega) (bif_and (bif_pos (by omega) (bif_pos (by omega) ?_)))
      rw [decide_eq_true (by omega), cond_true] at h
      rw [Int.toNat_natCast]
      rw [show IntKind.i64.wrap ((x : Int) + 1) = ((x + 1 : Nat) : Int) by rw [wr (by omega) (by omega)]; omega]
      by_cases h47 : (((preR s).data.toList.getD x 0).toNat : Int) = 47
      · rw [decide_eq_true h47, cond_true] at h
        refine bif_pos h47 (bif_and (bif_pos (by omega) (bif_pos (by omega) (bif_and (bif_and (bif_pos (by omega) (bif_pos (by omega) (bif_pos (by omega) ?_))))))))
        rw [Int.toNat_natCast, Int.toNat_natCast, (cut_parts h.1).1, (cut_parts h.1).2]
        exact h.2
      · rw [decide_eq_false h47, cond_false] at h
        exact bif_neg h47 h
    · rw [decide_eq_false (by omega), cond_false] at h
      exact bif_neg (by omega) h
  · refine bif_neg (fun h => hb ((b45 (by omega)).1 h)) ?_
    rw [decide_eq_false (fun h => hb ((b45 (by omega)).1 h))]
    have hbb : false = decide (q.num < 0) := by
      rw [← p1]
      cases hc : preB s
      · rfl
      · exact absurd hc hb
    have hss := preR_pos hb
    refine parts_loop s (by omega) (S := fun x : Nat => xparts_s6_1 s false (s.size : Int) (x : Int)) (by kernel_rfl) (LT := xparts_live) (NT := xparts_nils) con0_ok (fun x hx h => ?_) (hA false s hbb hss.symm) (hB false s hbb hss.symm)
    rw [xparts_s6_1_E]
    by_cases hlt : x < (s).size
    · refine bif_pos (by omega) (bif_and (bif_pos (by omega) (bif_pos (by omega) ?_)))
      rw [decide_eq_true (by omega), cond_true] at h
      rw [Int.toNat_natCast]
      rw [show IntKind.i64.wrap ((x : Int) + 1) = ((x + 1 : Nat) : Int) by rw [wr (by omega) (by omega)]; omega]
      by_cases h47 : (((s).data.toList.getD x 0).toNat : Int) = 47
      · rw [decide_eq_true h47, cond_true] at h
        refine bif_pos h47 (bif_and (bif_pos (by omega) (bif_pos (by omega) (bif_and (bif_and (bif_pos (by omega) (bif_pos (by omega) (bif_pos (by omega) ?_))))))))
        rw [Int.toNat_natCast, Int.toNat_natCast, (cut_parts h.1).1, (cut_parts h.1).2]
        exact h.2
      · rw [decide_eq_false h47, cond_false] at h
        exact bif_neg h47 h
    · rw [decide_eq_false (by omega), cond_false] at h
      exact bif_neg (by omega) h
theorem conX1_ok : ∀ g xs Q, conX1 g xs Q → Con Tryz.prog g xs Q := table_ok fun p hp => by
  simp only [List.mem_cons, List.not_mem_nil, or_false] at hp
  rcases hp with rfl | rfl | rfl | rfl | rfl | rfl | rfl
  · exact c1_ok fun _ _ h => rerr_conS h
  · exact c2_ok fun _ _ _ h => rcmp_conS h
  · exact c2_ok fun _ _ _ h => radd_conS h
  · exact c2_ok fun _ _ _ h => rsub_conS h
  · exact c2_ok fun _ _ _ h => rmul_conS h
  · exact c2_ok fun _ _ _ h => rdiv_conS h
  · exact c2_ok fun _ _ _ h => rgcd_conS h
theorem is0 {n : Nat} : ((natText n).toList == (ByteArray.mk #[48]).toList) = true ↔ n = 0 := by
  rw [bytes48]
  exact ⟨fun h => natText_inj (h.trans natText_zero.symm), fun h => by rw [h]; exact natText_zero⟩
theorem is1 {n : Nat} : ((natText n).toList == (ByteArray.mk #[49]).toList) = true ↔ n = 1 := by
  rw [bytes49]
  exact ⟨fun h => natText_inj (h.trans natText_one.symm), fun h => by rw [h]; exact natText_one⟩
theorem canon_con {neg : Bool} {n d : ByteArray} {Q : Res} (h : canonS neg n d Q) : Con Tryz.prog 37 [.bool neg, .str n, .str d] Q := by
  obtain ⟨u, v, rfl, rfl, hv, hbu, hbv, hq⟩ := h
  refine conN (gn := fnT Tryz.f37) (by kernel_rfl) conX1_ok (inl := []) (LT := xcanon_live) (NT := xcanon_nils) rfl fun n0 => ?_
  rw [xcanon_E]
  have hk : ∀ r, ratText (mkq neg u v) = r → resK Q (.str r) [] := fun r h => by rw [h] at hq; exact res_str hq
  by_cases h0 : u = 0
  · exact bif_t (is0.2 h0) (hk _ (by rw [h0, mkq_zero]; exact ratText_zero))
  refine bif_f (fun h => h0 (is0.1 h)) ?_
  have hg : 0 < Nat.gcd u v := Nat.gcd_pos_of_pos_right u hv
  have hgb : dg (Nat.gcd u v) ≤ 9000000000 := Nat.le_trans (dg_mono (Nat.le_of_dvd hv (Nat.gcd_dvd_right u v))) hbv
  have hr := ratText_mkq (neg := neg) hv (show 0 < u by omega)
  rw [hr] at hk
  have s1 : dg (u / Nat.gcd u v) ≤ 9000000000 := Nat.le_trans (dg_mono (Nat.div_le_self _ _)) hbu
  have s2 : dg (v / Nat.gcd u v) ≤ 9000000000 := Nat.le_trans (dg_mono (Nat.div_le_self _ _)) hbv
  refine ⟨u, v, rfl, rfl, hbu, hbv, _, _, rfl, rfl, hbu, hgb, hg, _, _, rfl, rfl, hbv, hgb, hg, ?_⟩
  generalize u / Nat.gcd u v = x at *
  generalize v / Nat.gcd u v = y at *
  have ex : (natText x).size = dg x := rfl
  have ey : (natText y).size = dg y := rfl
  have e45 : (⟨#[45]⟩ ++ natText x : ByteArray).size = 1 + dg x := ByteArray.size_append
  have e47 : (natText x ++ ⟨#[47]⟩ : ByteArray).size = dg x + 1 := ByteArray.size_append
  have e457 : (⟨#[45]⟩ ++ natText x ++ ⟨#[47]⟩ : ByteArray).size = 1 + dg x + 1 := by rw [ByteArray.size_append, e45]; rfl
  unfold rt at hk
  cases neg with
  | true =>
    refine bif_tt (bif_pos (by omega) ?_)
    by_cases h1 : y = 1
    · rw [if_pos h1, app_empty] at hk
      exact bif_t (is1.2 h1) (hk _ rfl)
    · rw [if_neg h1, ← ByteArray.append_assoc] at hk
      exact bif_f (fun h => h1 (is1.1 h)) (bif_pos (by omega) (bif_pos (by omega) (hk _ rfl)))
  | false =>
    refine bif_ff ?_
    by_cases h1 : y = 1
    · rw [if_pos h1, app_empty, cond_false, empty_app] at hk
      exact bif_t (is1.2 h1) (hk _ rfl)
    · rw [if_neg h1, ← ByteArray.append_assoc, cond_false, empty_app] at hk
      exact bif_f (fun h => h1 (is1.1 h)) (bif_pos (by omega) (bif_pos (by omega) (hk _ rfl)))
theorem conX2_ok : ∀ g xs Q, conX2 g xs Q → Con Tryz.prog g xs Q := table_ok fun p hp => by
  simp only [List.mem_cons, List.not_mem_nil, or_false] at hp
  rcases hp with rfl | rfl | rfl | rfl | rfl | rfl | rfl | rfl
  · exact c2_ok fun _ _ _ h => rcmp_conS h
  · exact c2_ok fun _ _ _ h => radd_conS h
  · exact c2_ok fun _ _ _ h => rsub_conS h
  · exact c2_ok fun _ _ _ h => rmul_conS h
  · exact c2_ok fun _ _ _ h => rdiv_conS h
  · exact c2_ok fun _ _ _ h => rgcd_conS h
  · exact c1_ok fun _ _ h => parts_con h
  · exact c3_ok fun _ _ _ _ h => canon_con h
end Go.Proofs.YtnjbabkfdcdkbaaGreatDoor.Lib
end
section
/- The reference of package rat: RatNeg, RatAdd, .. RatFloor: the contracts hold. -/
set_option linter.unusedVariables false
set_option linter.unusedSimpArgs false
namespace Go.Proofs.YtnjbabkfdcdkbaaGreatDoor.Lib
open Go Go.Proofs.YtnjbabkfdcdkbaaGreatDoor.Mach Go.Proofs.YtnjbabkfdcdkbaaGreatDoorW.PrintWords Go.Proofs.YtnjbabkfdcdkbaaGreatDoor.Sem Go.Proofs.YtnjbabkfdcdkbaaGreatDoor.Pure
theorem Sz.mono {k m : Nat} {q : Rat} (h : Sz k q) (hk : k ≤ m) : Sz m q := ⟨Nat.le_trans h.1 hk, Nat.le_trans h.2 hk⟩
theorem self_neg (q : Rat) : mkq (!decide (q.num < 0)) q.num.natAbs q.den = -q := by
  rw [← mkq_opp, mkq_self]
theorem xneg_con {s : ByteArray} {Q : Res} (h : xneg s Q) : Con Tryz.prog 41 [.str s] Q := by
  obtain ⟨q, rfl, sq, hq⟩ := h
  refine conN (gn := fnT Tryz.f41) (by kernel_rfl) conX2_ok (inl := []) (LT := xneg_live) (NT := xneg_nils) rfl fun n0 => ?_
  rw [xneg_E]
  have e1 := sz_n sq
  have e2 := sz_d sq
  rw [← self_neg] at hq
  exact ⟨q, rfl, sq.mono (by decide), _, _, rfl, rfl, den_pos q, by omega, by omega, res_str hq⟩
theorem xadd_con {s t : ByteArray} {Q : Res} (h : xadd s t Q) : Con Tryz.prog 11 [.str s, .str t] Q := by
  obtain ⟨x, y, rfl, rfl, sx, sy, hq⟩ := h
  refine conN (gn := fnT Tryz.f11) (by kernel_rfl) conX2_ok (inl := []) (LT := xadd_live) (NT := xadd_nils) rfl fun n0 => ?_
  rw [xadd_E]
  have e1 := sz_n sx; have e2 := sz_d sx; have e3 := sz_n sy; have e4 := sz_d sy
  have m1 := dg_mul2 e1 e4
  have m2 := dg_mul2 e3 e2
  have m3 := dg_mul2 e2 e4
  have px := den_pos x
  have py := den_pos y
  have hsum : x + y = mkq (decide (x.num < 0)) x.num.natAbs x.den + mkq (decide (y.num < 0)) y.num.natAbs y.den := by rw [mkq_self, mkq_self]
  rw [mkq_add _ _ _ _ _ _ px py] at hsum
  refine ⟨x, rfl, sx.mono (by decide), y, rfl, sy.mono (by decide), _, _, rfl, rfl, by omega, by omega, _, _, rfl, rfl, by omega, by omega, _, _, rfl, rfl, by omega, by omega, ?_⟩
  by_cases hb : decide (x.num < 0) = decide (y.num < 0)
  · rw [if_pos hb] at hsum
    rw [hsum] at hq
    refine bif_t (by rw [hb, beq_self_eq_true]) ⟨_, _, rfl, rfl, by omega, by omega, _, _, rfl, rfl, Nat.mul_pos px py, ?_, by omega, res_str hq⟩
    have := dg_add m1 m2; omega
  · rw [if_neg hb] at hsum
    refine bif_f (by simpa using hb) ⟨_, _, rfl, rfl, ?_⟩
    by_cases hc : y.num.natAbs * x.den ≤ x.num.natAbs * y.den
    · rw [if_pos hc] at hsum
      rw [hsum] at hq
      refine bif_neg (fun h => by have := cmp_ge.2 hc; omega) ⟨_, _, rfl, rfl, by omega, hc, _, _, rfl, rfl, Nat.mul_pos px py, ?_, by omega, res_str hq⟩
      have := dg_mono (Nat.sub_le (x.num.natAbs * y.den) (y.num.natAbs * x.den)); omega
    · rw [if_neg hc] at hsum
      rw [hsum] at hq
      refine bif_pos (Int.not_le.1 fun h => hc (cmp_ge.1 h)) ⟨_, _, rfl, rfl, by omega, by omega, _, _, rfl, rfl, Nat.mul_pos px py, ?_, by omega, res_str hq⟩
      have := dg_mono (Nat.sub_le (y.num.natAbs * x.den) (x.num.natAbs * y.den)); omega
theorem xdiv_con {s t : ByteArray} {Q : Res} (h : xdiv s t Q) : Con Tryz.prog 16 [.str s, .str t] Q := by
  obtain ⟨x, y, rfl, rfl, sx, sy, h1, hq⟩ := h
  refine conN (gn := fnT Tryz.f16) (by kernel_rfl) conX2_ok (inl := []) (LT := xdiv_live) (NT := xdiv_nils) rfl fun n0 => ?_
  rw [xdiv_E]
  have e1 := sz_n sx; have e2 := sz_d sx; have e3 := sz_n sy; have e4 := sz_d sy
  have m1 := dg_mul2 e1 e4
  have m3 := dg_mul2 e2 e3
  have hy : 0 < y.num.natAbs := by
    have : y.num ≠ 0 := fun h => h1 (Rat.num_eq_zero.1 h)
    omega
  have hquo : x / y = mkq (decide (x.num < 0)) x.num.natAbs x.den / mkq (decide (y.num < 0)) y.num.natAbs y.den := by rw [mkq_self, mkq_self]
  rw [mkq_quo _ _ _ _ _ _ (den_pos x) hy (den_pos y)] at hquo
  rw [hquo] at hq
  exact ⟨x, rfl, sx.mono (by decide), y, rfl, sy.mono (by decide), _, _, rfl, rfl, by omega, by omega, _, _, rfl, rfl, by omega, by omega, _, _, rfl, rfl, Nat.mul_pos (den_pos x) hy, by omega, by omega, res_str hq⟩
theorem xsign_con {s : ByteArray} {Q : Res} (h : xsign s Q) : Con Tryz.prog 15 [.str s] Q := by
  obtain ⟨q, rfl, sq, hq⟩ := h
  refine conN (gn := fnT Tryz.f15) (by kernel_rfl) conX2_ok (inl := []) (LT := xsign_live) (NT := xsign_nils) rfl fun n0 => ?_
  rw [xsign_E]
  unfold sgn at hq
  refine ⟨q, rfl, sq, ?_⟩
  by_cases h0 : q.num = 0
  · rw [if_pos h0] at hq
    exact bif_t (is0.2 (by omega)) (res_int hq)
  · rw [if_neg h0] at hq
    refine bif_f (fun h => h0 (by have := is0.1 h; omega)) ?_
    by_cases h1 : q.num < 0
    · rw [if_pos h1] at hq
      exact bif_pos h1 (res_int hq)
    · rw [if_neg h1] at hq
      exact bif_neg h1 (res_int hq)
end Go.Proofs.YtnjbabkfdcdkbaaGreatDoor.Lib
end
section
/- The reference of package rat: RatInt, RatError, RatSub, RatCmp: the contracts hold. -/
set_option linter.unusedVariables false
set_option linter.unusedSimpArgs false
namespace Go.Proofs.YtnjbabkfdcdkbaaGreatDoor.Lib
open Go Go.Proofs.YtnjbabkfdcdkbaaGreatDoor.Mach Go.Proofs.YtnjbabkfdcdkbaaGreatDoorW.PrintWords Go.Proofs.YtnjbabkfdcdkbaaGreatDoor.Sem Go.Proofs.YtnjbabkfdcdkbaaGreatDoor.Pure Go.Proofs.YtnjbabkfdcdkbaaGreatDoor.NatVal
theorem intText_neg {n : Int} (h : n < 0) : ratText (n : Rat) = ⟨#[45]⟩ ++ natText n.natAbs := by
  unfold ratText rt
  rw [Rat.num_intCast, Rat.den_intCast, decide_eq_true h, if_pos rfl, app_empty]
  rfl
theorem intText_pos {n : Int} (h : 0 ≤ n) : ratText (n : Rat) = natText n.toNat := by
  rw [← ratText_nat]
  congr 1
  obtain ⟨m, rfl⟩ := Int.eq_ofNat_of_zero_le h
  rw [Int.toNat_natCast]; rfl
theorem minText : natText 9223372036854775808 = ⟨#[57, 50, 50, 51, 51, 55, 50, 48, 51, 54, 56, 53, 52, 55, 55, 53, 56, 48, 56]⟩ := by
  refine (text_eq ?_).symm
  refine ⟨?_, ?_, by decide, fun _ => by decide⟩
  · unfold asc; decide
  · decide
theorem xint_con {n : Int} {Q : Res} (h : xint n Q) : Con Tryz.prog 17 [.int .i64 n] Q := by
  obtain ⟨⟨h1, h2⟩, hq⟩ := h
  by_cases h0 : 0 ≤ n
  · rw [intText_pos h0] at hq
    exact rint_conS ⟨⟨h0, h2⟩, hq⟩
  · rw [intText_neg (by omega)] at hq
    refine conN (gn := fnT Tryz.f17) (by kernel_rfl) conR5_ok (inl := []) (LT := rintn_live) (NT := rintn_nils) rfl fun n0 => ?_
    rw [rintn_E]
    refine bif_neg h0 ?_
    by_cases hm : n = -9223372036854775808
    · refine bif_pos hm (res_str ?_)
      rw [hm, show (-9223372036854775808 : Int).natAbs = 9223372036854775808 from rfl, minText] at hq
      exact hq
    · refine bif_neg hm ?_
      rw [wr (by omega) (by omega)]
      obtain ⟨r, g1, g2, _⟩ := ratint_ev (0 - n).toNat (by omega)
      rw [text_eq g2, Int.toNat_of_nonneg (by omega)] at g1
      obtain ⟨k, hk⟩ := g1.rounds
      refine ⟨by omega, k, _, hk, bif_pos ?_ (res_str ?_)⟩
      · have : (natText (0 - n).toNat).size = dg (0 - n).toNat := rfl
        have := dg_word (n := (0 - n).toNat) (by omega)
        omega
      · rw [show (0 - n).toNat = n.natAbs by omega]
        exact hq
theorem natText_two' : natErr (⟨#[50]⟩ : ByteArray) = 0 := by
  rw [← natText_two]
  exact err_text (Nat.le_trans (dg_le (k := 1) (by decide) (by decide)) (by decide))
noncomputable def errOf (neg : Bool) (a b : ByteArray) (m : Int) : Int :=
  if natErr a = 5 ∨ natErr b = 5 ∨ (neg = true ∧ a = zeroS) then 5 else if natErr a ≠ 0 ∨ natErr b ≠ 0 then 2
  else if m = 2 ∧ (b = zeroS ∨ b = ⟨#[49]⟩ ∨ Nat.gcd (numOf a) (numOf b) ≠ 1) then 3 else 0
theorem errOf_eq (s : ByteArray) : ratErr s = errOf (preB s) (cutA (preR s)) (bif cutI (preR s) then cutB (preR s) else ⟨#[50]⟩) (bif cutI (preR s) then 2 else 1) := by
  unfold ratErr errOf
  cases hI : cutI (preR s) with
  | true => simp only [true_and, cond_true]
  | false =>
    have := natText_two'
    simp only [Bool.false_eq_true, false_and, or_false, false_or, cond_false, this]
    simp
section
variable {a b : ByteArray} {m : Int} {neg : Bool} {K : Res}
theorem err_tail (hk : ∀ v, errOf neg a b m = v → K (.int .i64 v) []) (hm : m = 1 ∨ m = 2) (h5 : ¬ (natErr a = 5 ∨ natErr b = 5 ∨ (neg = true ∧ a = zeroS))) :
    bif !decide (natErr a = 0) then K (AV.int IntKind.i64 2) [] else bif bif false then true else !decide (natErr b = 0) then K (AV.int IntKind.i64 2) [] else bif decide (m = 2) then bif b.toList == (ByteArray.mk #[48]).toList then K (AV.int IntKind.i64 3) [] else bif bif false then true else b.toList == (ByteArray.mk #[49]).toList then K (AV.int IntKind.i64 3) [] else ∃ u v, a = Sem.natText u ∧ b = Sem.natText v ∧ Sem.dg u ≤ 9000000000 ∧ Sem.dg v ≤ 9000000000 ∧ bif bif true then bif false then true else !(Sem.natText (u.gcd v)).toList == (ByteArray.mk #[49]).toList else false then K (AV.int IntKind.i64 3) [] else K (AV.int IntKind.i64 0) [] else K (AV.int IntKind.i64 0) [] := by
  unfold errOf at hk
  rw [if_neg h5] at hk
  by_cases e1 : natErr a = 0
  · refine bif_not (bif_pos e1 ?_)
    by_cases e2 : natErr b = 0
    · refine bif_f (by simp [e2]) ?_
      rw [if_neg (by rintro (h | h) <;> exact h (by assumption))] at hk
      rcases hm with hm | hm
      · exact bif_neg (by omega) (hk 0 (if_neg fun h => by omega))
      · refine bif_pos hm ?_
        by_cases f1 : b = zeroS
        · exact bif_t (bytes48.2 f1) (hk 3 (if_pos ⟨hm, .inl f1⟩))
        refine bif_f (fun h => f1 (bytes48.1 h)) ?_
        by_cases f2 : b = ⟨#[49]⟩
        · exact bif_t (bytes49.2 f2) (hk 3 (if_pos ⟨hm, .inr (.inl f2)⟩))
        refine bif_f (fun h => f2 (bytes49.1 h)) ?_
        obtain ⟨u, rfl, hu⟩ := err_zero e1
        obtain ⟨v, rfl, hv⟩ := err_zero e2
        rw [numOf_text, numOf_text] at hk
        refine ⟨u, v, rfl, rfl, by omega, by omega, ?_⟩
        by_cases f3 : Nat.gcd u v = 1
        · refine bif_f (by rw [cond_true, cond_false, Bool.not_eq_true', ← Bool.not_eq_true]; exact fun h => h (is1.2 f3)) (hk 0 (if_neg ?_))
          rintro ⟨_, h | h | h⟩
          · exact f1 h
          · exact f2 h
          · exact h f3
        · exact bif_t (by rw [cond_true, cond_false, Bool.not_eq_true', ← Bool.not_eq_true]; exact fun h => f3 (is1.1 h)) (hk 3 (if_pos ⟨hm, .inr (.inr f3)⟩))
    · exact bif_t (by simp [e2]) (hk 2 (if_pos (.inr e2)))
  · exact bif_not (bif_neg e1 (hk 2 (if_pos (.inl e1))))
end
noncomputable def found (r : ByteArray) (x : Nat) : ByteArray × ByteArray × Int := if 0 ≤ firstIdx r 47 ∧ firstIdx r 47 < x then (cutA r, cutB r, 2) else (r, ⟨#[50]⟩, 1)
theorem found_zero (r : ByteArray) : found r 0 = (r, ⟨#[50]⟩, 1) := if_neg fun h => by omega
theorem found_all (r : ByteArray) : found r r.size = (cutA r, bif cutI r then cutB r else ⟨#[50]⟩, bif cutI r then 2 else 1) := by
  have := firstIdx_lt r 47
  unfold found
  cases hI : cutI r with
  | true =>
    rw [if_pos ⟨by unfold cutI at hI; exact of_decide_eq_true hI, this.2⟩]; rfl
  | false =>
    have ha : cutA r = r := by unfold cutA; rw [hI]; rfl
    rw [if_neg fun h => by unfold cutI at hI; exact of_decide_eq_false hI h.1, ha]; rfl
theorem found_hit {r : ByteArray} {x : Nat} (hx : x < r.size) (h : r.data.toList.getD x 0 = 47) (h1 : (found r x).2.2 = 1) : found r x = (r, ⟨#[50]⟩, 1) ∧ found r (x + 1) = (r.extract 0 x, r.extract (x + 1) r.size, 2) := by
  have hn : ¬ (0 ≤ firstIdx r 47 ∧ firstIdx r 47 < x) := fun hc => by
    unfold found at h1
    rw [if_pos hc] at h1
    simp at h1
  have := fi_at hx h
  refine ⟨if_neg hn, ?_⟩
  obtain ⟨c1, c2⟩ := cut_parts (r := r) (x := x) (by omega)
  unfold found
  rw [if_pos ⟨this.1, by omega⟩, c1, c2]
theorem found_skip {r : ByteArray} {x : Nat} (hx : x < r.size) (h : r.data.toList.getD x 0 ≠ 47 ∨ (found r x).2.2 ≠ 1) : found r (x + 1) = found r x := by
  unfold found at h ⊢
  by_cases hc : 0 ≤ firstIdx r 47 ∧ firstIdx r 47 < x
  · rw [if_pos hc, if_pos ⟨hc.1, by omega⟩]
  · rw [if_neg hc] at h ⊢
    rcases h with h | h
    · have := fi_ne hx h
      rw [if_neg (by omega)]
    · exact absurd rfl h
theorem found_m (r : ByteArray) (x : Nat) : (found r x).2.2 = 1 ∨ (found r x).2.2 = 2 := by
  unfold found
  split
  · exact .inr rfl
  · exact .inl rfl
theorem found_size (r : ByteArray) (x : Nat) : (found r x).1.size ≤ r.size ∧ (found r x).2.1.size ≤ r.size + 1 := by
  unfold found
  have h1 := cutA_le r
  have h2 := cutB_le r
  split
  · exact ⟨h1, Nat.le_succ_of_le h2⟩
  · exact ⟨Nat.le_refl _, by show (ByteArray.mk #[50]).size ≤ _; rw [show (ByteArray.mk #[50]).size = 1 from rfl]; omega⟩
theorem wrS {x n : Nat} (h : x < n) (hn : n ≤ 1000000000000000000) : IntKind.i64.wrap ((x : Int) + 1) = ((x + 1 : Nat) : Int) := by rw [wr (by omega) (by omega)]; omega
theorem xerr_con {s : ByteArray} {Q : Res} (h : rcheckS s Q) : Con Tryz.prog 73 [.str s] Q := by
  obtain ⟨hs, hq⟩ := h
  unfold Tx at hs
  refine conN (gn := fnT Tryz.f73) (by kernel_rfl) conX1_ok (inl := []) (LT := xerr_live) (NT := xerr_nils) rfl fun n0 => ?_
  rw [xerr_E]
  rw [errOf_eq] at hq
  have hk : ∀ v, errOf (preB s) (cutA (preR s)) (bif cutI (preR s) then cutB (preR s) else ⟨#[50]⟩) (bif cutI (preR s) then 2 else 1) = v → resK Q (.int .i64 v) [] := fun v h => by rw [h] at hq; exact res_int hq
  have hr := preR_le s
  have hsz : ∀ x, (found (preR s) x).1.size ≤ 1000000000000000 ∧ (found (preR s) x).2.1.size ≤ 1000000000000000 := fun x => by
    have := found_size (preR s) x
    have h2 : (found (preR s) x).2.1.size ≤ 1000000000000000 := by
      unfold found
      split
      · exact Nat.le_trans (cutB_le _) (by omega)
      · show (ByteArray.mk #[50]).size ≤ _; decide
    exact ⟨by omega, h2⟩
  have hm := found_m (preR s) (preR s).size
  have hall := found_all (preR s)
  by_cases hb : preB s = true
  · have hs0 : 0 < s.size := Nat.pos_of_ne_zero fun h => by
      unfold preB at hb
      rw [h] at hb
      simp at hb
    refine bif_pos (by omega) (bif_pos (by omega) (bif_t (by rw [cond_true]; exact decide_eq_true ((b45 hs0).2 hb)) (bif_and (bif_pos (by omega) (bif_pos (by omega) ?_)))))
    rw [Int.toNat_natCast, ← preR_neg hb]
    have go := loopN (f := 73) (gn := fnT Tryz.f73) (n0 := n0) (K := resK Q) (r := 6) (by kernel_rfl) conX1_ok (inl := []) (LT := xerr_live) (NT := xerr_nils) (fun x : Nat => xerr_s6_0 s (preR s) (found (preR s) x).2.2 (found (preR s) x).1 (found (preR s) x).2.1 ((preR s).size : Int) (x : Int)) (fun x => (preR s).size - x) (fun x => x ≤ (preR s).size) (fun x hp ih => by
      rw [xerr_s6_0_E]
      by_cases hx : x < (preR s).size
      · refine bif_pos (by omega) (bif_and (bif_pos (by omega) (bif_pos (by omega) ?_)))
        have ih' := ih (x + 1) (by omega) (by omega)
        rw [Int.toNat_natCast, wrS hx (by omega)]
        by_cases h47 : (preR s).data.toList.getD x 0 = 47
        · refine bif_pos (b47.2 h47) ?_
          by_cases h1 : (found (preR s) x).2.2 = 1
          · refine bif_t (by rw [cond_true]; exact decide_eq_true h1) (bif_and (bif_pos (by omega) (bif_pos (by omega) (bif_and (bif_and (bif_pos (by omega) (bif_pos (by omega) (bif_pos (by omega) ?_))))))))
            obtain ⟨f1, f2⟩ := found_hit hx h47 h1
            rw [f2] at ih'
            rw [Int.toNat_natCast, Int.toNat_natCast]
            exact ih'
          · refine bif_f (by rw [cond_true]; exact fun h => h1 (of_decide_eq_true h)) ?_
            rw [found_skip hx (.inr h1)] at ih'
            exact ih'
        · refine bif_neg (fun h => h47 (b47.1 h)) ?_
          rw [found_skip hx (.inl h47)] at ih'
          exact ih'
      · refine bif_neg (by omega) ?_
        have hxx : x = (preR s).size := by omega
        have hz := hsz x
        rw [hxx] at hz ⊢
        rw [hall] at hm hz ⊢
        refine ⟨hz.1, hz.2, ?_⟩
        rw [hb] at hk
        simp only at hm hz ⊢
        generalize cutA (preR s) = a at *
        generalize (bif cutI (preR s) then cutB (preR s) else ⟨#[50]⟩) = b at *
        generalize (bif cutI (preR s) then 2 else 1) = m at *
        by_cases h1 : natErr a = 5
        · exact bif_pos h1 (hk 5 (if_pos (.inl h1)))
        refine bif_neg h1 ?_
        by_cases h2 : natErr b = 5
        · exact bif_t (decide_eq_true h2) (hk 5 (if_pos (.inr (.inl h2))))
        refine bif_f (fun h => h2 (of_decide_eq_true h)) ?_
        by_cases h3 : a = zeroS
        · exact bif_t (bytes48.2 h3) (hk 5 (if_pos (.inr (.inr ⟨rfl, h3⟩))))
        refine bif_f (fun h => h3 (bytes48.1 h)) ?_
        refine err_tail hk hm ?_
        rintro (h | h | ⟨_, h⟩)
        · exact h1 h
        · exact h2 h
        · exact h3 h) 0 (Nat.zero_le _)
    rw [found_zero] at go
    exact go
  · have hss := preR_pos hb
    have hbf : preB s = false := by
      cases hc : preB s
      · rfl
      · exact absurd hc hb
    rw [hss] at hall hsz hm hk
    rw [hbf] at hk
    have fin : ∀ a b m, found s s.size = (a, b, m) → a.size ≤ 1000000000000000 ∧ b.size ≤ 1000000000000000 ∧ bif decide (Pure.natErr a = 5) then resK Q (AV.int IntKind.i64 5) [] else bif bif false then true else decide (Pure.natErr b = 5) then resK Q (AV.int IntKind.i64 5) [] else bif !decide (natErr a = 0) then resK Q (AV.int IntKind.i64 2) [] else bif bif false then true else !decide (natErr b = 0) then resK Q (AV.int IntKind.i64 2) [] else bif decide (m = 2) then bif b.toList == (ByteArray.mk #[48]).toList then resK Q (AV.int IntKind.i64 3) [] else bif bif false then true else b.toList == (ByteArray.mk #[49]).toList then resK Q (AV.int IntKind.i64 3) [] else ∃ u v, a = Sem.natText u ∧ b = Sem.natText v ∧ Sem.dg u ≤ 9000000000 ∧ Sem.dg v ≤ 9000000000 ∧ bif bif true then bif false then true else !(Sem.natText (u.gcd v)).toList == (ByteArray.mk #[49]).toList else false then resK Q (AV.int IntKind.i64 3) [] else resK Q (AV.int IntKind.i64 0) [] else resK Q (AV.int IntKind.i64 0) [] := fun a b m he => by
      have hz := hsz s.size
      rw [he] at hz hm
      rw [hall] at he
      obtain ⟨ha, he⟩ := Prod.mk.inj he
      obtain ⟨hb', hm'⟩ := Prod.mk.inj he
      rw [ha, hb', hm'] at hk
      refine ⟨hz.1, hz.2, ?_⟩
      by_cases h1 : natErr a = 5
      · exact bif_pos h1 (hk 5 (if_pos (.inl h1)))
      refine bif_neg h1 ?_
      by_cases h2 : natErr b = 5
      · exact bif_t (decide_eq_true h2) (hk 5 (if_pos (.inr (.inl h2))))
      refine bif_f (fun h => h2 (of_decide_eq_true h)) ?_
      refine err_tail hk hm ?_
      rintro (h | h | ⟨h, _⟩)
      · exact h1 h
      · exact h2 h
      · cases h
    have go2 := loopN (f := 73) (gn := fnT Tryz.f73) (n0 := n0) (K := resK Q) (r := 6) (by kernel_rfl) conX1_ok (inl := []) (LT := xerr_live) (NT := xerr_nils) (fun x : Nat => xerr_s6_2 s (found s x).2.2 (found s x).1 (found s x).2.1 (s.size : Int) (x : Int)) (fun x => s.size - x) (fun x => x ≤ s.size ∧ (found s x).2.2 = 2) (fun x hp ih => by
      rw [xerr_s6_2_E]
      obtain ⟨hp, h2⟩ := hp
      by_cases hx : x < s.size
      · have h1 : ¬ (found s x).2.2 = 1 := by omega
        have hsk := found_skip hx (.inr h1)
        refine bif_pos (by omega) (bif_and (bif_pos (by omega) (bif_pos (by omega) ?_)))
        have ih' := ih (x + 1) ⟨by omega, by rw [hsk]; exact h2⟩ (by omega)
        rw [Int.toNat_natCast, wrS hx (by omega)]
        rw [hsk] at ih'
        by_cases h47 : s.data.toList.getD x 0 = 47
        · exact bif_pos (b47.2 h47) (bif_f (by rw [cond_true]; exact fun h => h1 (of_decide_eq_true h)) ih')
        · exact bif_neg (fun h => h47 (b47.1 h)) ih'
      · refine bif_neg (by omega) ?_
        have hxx : x = s.size := by omega
        subst hxx
        exact fin _ _ _ rfl)
    have go := loopN (f := 73) (gn := fnT Tryz.f73) (n0 := n0) (K := resK Q) (r := 6) (by kernel_rfl) conX1_ok (inl := []) (LT := xerr_live) (NT := xerr_nils) (fun x : Nat => xerr_s6_1 s 1 ⟨#[50]⟩ (s.size : Int) (x : Int)) (fun x => s.size - x) (fun x => x ≤ s.size ∧ found s x = (s, ⟨#[50]⟩, 1)) (fun x hp ih => by
      rw [xerr_s6_1_E]
      obtain ⟨hp, h2⟩ := hp
      by_cases hx : x < s.size
      · have h1 : (found s x).2.2 = 1 := by rw [h2]
        refine bif_pos (by omega) (bif_and (bif_pos (by omega) (bif_pos (by omega) ?_)))
        rw [Int.toNat_natCast, wrS hx (by omega)]
        by_cases h47 : s.data.toList.getD x 0 = 47
        · refine bif_pos (b47.2 h47) (bif_t (by rw [cond_true]; rfl) (bif_and (bif_pos (by omega) (bif_pos (by omega) (bif_and (bif_and (bif_pos (by omega) (bif_pos (by omega) (bif_pos (by omega) ?_)))))))))
          obtain ⟨f1, f2⟩ := found_hit hx h47 h1
          have := go2 (x + 1) ⟨by omega, by rw [f2]⟩
          simp only [f2] at this
          rw [Int.toNat_natCast, Int.toNat_natCast]
          exact this
        · exact bif_neg (fun h => h47 (b47.1 h)) (ih (x + 1) ⟨by omega, by rw [found_skip hx (.inl h47)]; exact h2⟩ (by omega))
      · refine bif_neg (by omega) ?_
        have hxx : x = s.size := by omega
        subst hxx
        exact fin _ _ _ h2) 0 ⟨Nat.zero_le _, found_zero s⟩
    by_cases hs0 : 0 < s.size
    · refine bif_pos (by omega) (bif_pos (by omega) (bif_f (by rw [cond_true]; exact fun h => hb ((b45 hs0).1 (of_decide_eq_true h))) go))
    · exact bif_neg (by omega) go
end Go.Proofs.YtnjbabkfdcdkbaaGreatDoor.Lib
end
section
/- Package rat: texts and numbers; lists; the exported functions of two texts. -/
set_option linter.unusedVariables false
set_option linter.unusedSimpArgs false
namespace Go.Proofs.YtnjbabkfdcdkbaaGreatDoor.Lib
open Go Go.Proofs.YtnjbabkfdcdkbaaGreatDoor.Mach Go.Proofs.YtnjbabkfdcdkbaaGreatDoorW.PrintWords Go.Proofs.YtnjbabkfdcdkbaaGreatDoor.Sem Go.Proofs.YtnjbabkfdcdkbaaGreatDoor.Pure
theorem pre_join {s : ByteArray} (h : preB s = true) : s = ⟨#[45]⟩ ++ preR s := by
  rw [preR_neg h]
  have hd := h
  unfold preB at hd
  by_cases h1 : 1 ≤ s.size
  · rw [decide_eq_true h1, cond_true, beq_iff_eq, toList_eq_iff] at hd
    rw [← hd]
    apply ByteArray.ext
    rw [ByteArray.data_append, ByteArray.data_extract, ByteArray.data_extract, Array.extract_append_extract]
    have : s.size = s.data.size := rfl
    rw [this, Nat.min_eq_left (by omega), Nat.max_eq_right (by omega), Array.extract_size]
  · rw [decide_eq_false h1] at hd
    cases hd
theorem cut_join {s : ByteArray} (h : cutI s = true) : s = cutA s ++ (⟨#[47]⟩ ++ cutB s) := by
  unfold cutA cutB
  rw [h, cond_true, cond_true]
  unfold cutI at h
  have h0 := of_decide_eq_true h
  have hl := (firstIdx_lt s 47).2
  have hb : s.data.toList.getD (firstIdx s 47).toNat 0 = 47 := Classical.byContradiction fun hc => by
    have := fi_ne (s := s) (i := (firstIdx s 47).toNat) (by omega) hc
    omega
  generalize hi : (firstIdx s 47).toNat = i at *
  have hi' : i < s.size := by omega
  have hz : s.size = s.data.size := rfl
  have hll : s.data.toList.length = s.size := by rw [Array.length_toList]; rfl
  apply ByteArray.ext
  apply Array.ext'
  rw [ByteArray.data_append, ByteArray.data_append, ByteArray.data_extract, ByteArray.data_extract, Array.toList_append, Array.toList_append, Array.toList_extract, Array.toList_extract, List.extract_eq_take_drop, List.extract_eq_take_drop, List.drop_zero, Nat.sub_zero]
  rw [List.take_of_length_le (l := s.data.toList.drop (i + 1)) (by rw [List.length_drop]; omega)]
  have : s.data.toList.drop i = 47 :: s.data.toList.drop (i + 1) := by
    rw [List.drop_eq_getElem_cons (by omega)]
    congr 1
    rw [List.getD_eq_getElem?_getD, List.getElem?_eq_getElem (by omega)] at hb
    exact hb
  show s.data.toList = _ ++ ([47] ++ _)
  rw [List.singleton_append, ← this, List.take_append_drop]
theorem ratOf_text (q : Rat) : ratOf (ratText q) = q := by
  obtain ⟨p1, p2, p3, p4⟩ := rt_parts (decide (q.num < 0)) q.num.natAbs q.den
  change preB (ratText q) = _ at p1
  change cutA (preR (ratText q)) = _ at p2
  change cutI (preR (ratText q)) = _ at p3
  change q.den ≠ 1 → cutB (preR (ratText q)) = _ at p4
  unfold ratOf
  rw [p1, p2, numOf_text]
  by_cases h : q.den = 1
  · rw [if_neg (by rw [p3]; simpa using h)]
    rw [← h]; exact mkq_self q
  · rw [if_pos (by rw [p3]; simpa using h), p4 h, numOf_text]
    exact mkq_self q
theorem rat_ok {s : ByteArray} (h : ratErr s = 0) : s = ratText (ratOf s) ∧ Sz 2000 (ratOf s) := by
  suffices h : ∃ q, s = ratText q ∧ Sz 2000 q by
    obtain ⟨q, rfl, hs⟩ := h
    rw [ratOf_text]
    exact ⟨rfl, hs⟩
  unfold ratErr at h
  by_cases h1 : natErr (cutA (preR s)) = 5 ∨ (cutI (preR s) = true ∧ natErr (cutB (preR s)) = 5) ∨ (preB s = true ∧ cutA (preR s) = zeroS)
  · rw [if_pos h1] at h; cases h
  rw [if_neg h1] at h
  by_cases h2 : natErr (cutA (preR s)) ≠ 0 ∨ (cutI (preR s) = true ∧ natErr (cutB (preR s)) ≠ 0)
  · rw [if_pos h2] at h; cases h
  rw [if_neg h2] at h
  by_cases h3 : cutI (preR s) = true ∧ (cutB (preR s) = zeroS ∨ cutB (preR s) = ⟨#[49]⟩ ∨ Nat.gcd (numOf (cutA (preR s))) (numOf (cutB (preR s))) ≠ 1)
  · rw [if_pos h3] at h; cases h
  obtain ⟨u, hu, hud⟩ := err_zero (Classical.byContradiction fun hc => h2 (.inl hc))
  have hsj : s = (bif preB s then ⟨#[45]⟩ else ⟨#[]⟩) ++ preR s := by
    cases hb : preB s with
    | true => rw [cond_true]; exact pre_join hb
    | false => rw [cond_false, empty_app]; exact (preR_pos (by rw [hb]; decide)).symm
  have hneg : u = 0 → preB s = false := fun h0 => by
    cases hb : preB s with
    | false => rfl
    | true => exact absurd (.inr (.inr ⟨hb, by rw [hu, h0, natText_zero]⟩)) h1
  cases hI : cutI (preR s) with
  | true =>
    obtain ⟨v, hv, hvd⟩ := err_zero (Classical.byContradiction fun hc => h2 (.inr ⟨hI, hc⟩))
    have hv0 : v ≠ 0 := fun h0 => h3 ⟨hI, .inl (by rw [hv, h0, natText_zero])⟩
    have hv1 : v ≠ 1 := fun h0 => h3 ⟨hI, .inr (.inl (by rw [hv, h0, natText_one]))⟩
    have hg : Nat.gcd u v = 1 := Classical.byContradiction fun hc => h3 ⟨hI, .inr (.inr (by rw [hu, hv, numOf_text, numOf_text]; exact hc))⟩
    have hu0 : 0 < u := Nat.pos_of_ne_zero fun h0 => by rw [h0, Nat.gcd_zero_left] at hg; exact hv1 hg
    refine ⟨mkq (preB s) u v, ?_, ?_, ?_⟩
    · rw [ratText_mkq (by omega) hu0, hg, Nat.div_one, Nat.div_one]
      unfold rt
      rw [if_neg hv1, ByteArray.append_assoc, ← hu, ← hv, ← cut_join hI]
      exact hsj
    · exact Nat.le_trans (szN_mkq (by omega)) hud
    · exact Nat.le_trans (szD_mkq (by omega)) hvd
  | false =>
    have hA : cutA (preR s) = preR s := by unfold cutA; rw [hI]; rfl
    refine ⟨mkq (preB s) u 1, ?_, ?_, ?_⟩
    · by_cases hu0 : u = 0
      · rw [hu0, mkq_zero, ratText_zero, ← natText_zero]
        rw [hneg hu0, cond_false, empty_app] at hsj
        rw [hsj, ← hA, hu, hu0]
      · rw [ratText_mkq (by omega) (by omega), Nat.gcd_one_right, Nat.div_one, Nat.div_one]
        unfold rt
        rw [if_pos rfl, app_empty, ← hu, hA]
        exact hsj
    · exact Nat.le_trans (szN_mkq (by omega)) hud
    · exact Nat.le_trans (szD_mkq (by omega)) (by rw [dg_one]; decide)
end Go.Proofs.YtnjbabkfdcdkbaaGreatDoor.Lib
end
section
/- Package rat: lists of texts; the exported functions of two texts. -/
set_option linter.unusedVariables false
set_option linter.unusedSimpArgs false
namespace Go.Proofs.YtnjbabkfdcdkbaaGreatDoor.Lib
open Go Go.Proofs.YtnjbabkfdcdkbaaGreatDoor.Mach Go.Proofs.YtnjbabkfdcdkbaaGreatDoorW.PrintWords Go.Proofs.YtnjbabkfdcdkbaaGreatDoor.Sem Go.Proofs.YtnjbabkfdcdkbaaGreatDoor.Pure
theorem errs_at {l : List ByteArray} {x : Nat} (hx : x < l.length) : ratErrs (l.drop x) = if ratErr (l.getD x ByteArray.empty) = 0 then ratErrs (l.drop (x + 1)) else ratErr (l.getD x ByteArray.empty) := by
  rw [List.drop_eq_getElem_cons hx, List.getD_eq_getElem?_getD, List.getElem?_eq_getElem hx]
  rfl
theorem getD_mem {α : Type} {l : List α} {x : Nat} {d : α} (hx : x < l.length) : l.getD x d ∈ l := by
  rw [List.getD_eq_getElem?_getD, List.getElem?_eq_getElem hx]
  exact List.getElem_mem hx
theorem conQ4_ok : ∀ g xs Q, conQ4 g xs Q → Con Tryz.prog g xs Q := table_ok fun p hp => by
  simp only [List.mem_cons, List.not_mem_nil, or_false] at hp
  rcases hp with rfl
  exact c1_ok fun _ _ h => rcheck_con h
theorem rchecks_con {l : List ByteArray} {Q : Res} (h : rchecksS l Q) : Con Tryz.prog 70 [.imm eS l] Q := by
  obtain ⟨⟨hl, ht⟩, hq⟩ := h
  refine conN (gn := fnT Tryz.f70) (by kernel_rfl) conQ4_ok (inl := []) (LT := qchecks_live) (NT := qchecks_nils) rfl fun n0 => ?_
  rw [qchecks_E]
  refine loopN (f := 70) (gn := fnT Tryz.f70) (n0 := n0) (K := resK Q) (r := 2) (by kernel_rfl) conQ4_ok (inl := []) (LT := qchecks_live) (NT := qchecks_nils) (fun x : Nat => qchecks_s2_0 l (l.length : Int) (x : Int)) (fun x => l.length - x) (fun x => x ≤ l.length ∧ ratErrs (l.drop x) = ratErrs l) (fun x hp ih => ?_) 0 ⟨Nat.zero_le _, rfl⟩
  obtain ⟨hp, he⟩ := hp
  rw [qchecks_s2_0_E]
  by_cases hx : x < l.length
  · rw [errs_at hx] at he
    refine bif_pos (by omega) (bif_and (bif_pos (by omega) (bif_pos (by omega) ?_)))
    rw [Int.toNat_natCast, wrS hx (by omega)]
    refine ⟨ht _ (getD_mem hx), ?_⟩
    by_cases h0 : ratErr (l.getD x ByteArray.empty) = 0
    · rw [if_pos h0] at he
      exact bif_not (bif_pos h0 (ih (x + 1) ⟨by omega, he⟩ (by omega)))
    · rw [if_neg h0] at he
      rw [← he] at hq
      exact bif_not (bif_neg h0 (res_int hq))
  · refine bif_neg (by omega) (res_int ?_)
    rw [List.drop_eq_nil_of_le (by omega)] at he
    rw [← he] at hq
    exact hq
theorem xerrs_con0 {l : List ByteArray} {Q : Res} (h : rchecksS l Q) (hC : ∀ g xs Q, conX3 g xs Q → Con Tryz.prog g xs Q) : Con Tryz.prog 47 [.imm eS l] Q := by
  obtain ⟨⟨hl, ht⟩, hq⟩ := h
  refine conN (gn := fnT Tryz.f47) (by kernel_rfl) hC (inl := []) (LT := xerrs_live) (NT := xerrs_nils) rfl fun n0 => ?_
  rw [xerrs_E]
  refine loopN (f := 47) (gn := fnT Tryz.f47) (n0 := n0) (K := resK Q) (r := 2) (by kernel_rfl) hC (inl := []) (LT := xerrs_live) (NT := xerrs_nils) (fun x : Nat => xerrs_s2_0 l (l.length : Int) (x : Int)) (fun x => l.length - x) (fun x => x ≤ l.length ∧ ratErrs (l.drop x) = ratErrs l) (fun x hp ih => ?_) 0 ⟨Nat.zero_le _, rfl⟩
  obtain ⟨hp, he⟩ := hp
  rw [xerrs_s2_0_E]
  by_cases hx : x < l.length
  · rw [errs_at hx] at he
    refine bif_pos (by omega) (bif_and (bif_pos (by omega) (bif_pos (by omega) ?_)))
    rw [Int.toNat_natCast, wrS hx (by omega)]
    refine ⟨ht _ (getD_mem hx), ?_⟩
    by_cases h0 : ratErr (l.getD x ByteArray.empty) = 0
    · rw [if_pos h0] at he
      exact bif_not (bif_pos h0 (ih (x + 1) ⟨by omega, he⟩ (by omega)))
    · rw [if_neg h0] at he
      rw [← he] at hq
      exact bif_not (bif_neg h0 (res_int hq))
  · refine bif_neg (by omega) (res_int ?_)
    rw [List.drop_eq_nil_of_le (by omega)] at he
    rw [← he] at hq
    exact hq
theorem conX3_ok : ∀ g xs Q, conX3 g xs Q → Con Tryz.prog g xs Q := table_ok fun p hp => by
  simp only [List.mem_cons, List.not_mem_nil, or_false] at hp
  rcases hp with rfl | rfl | rfl | rfl
  · exact c1_ok fun _ _ h => xneg_con h
  · exact c2_ok fun _ _ _ h => xadd_con h
  · exact c1_ok fun _ _ h => xerr_con h
  · exact c1_ok fun _ _ h => rint_conS h
theorem xerrs_con {l : List ByteArray} {Q : Res} (h : rchecksS l Q) : Con Tryz.prog 47 [.imm eS l] Q := xerrs_con0 h conX3_ok
theorem xsub_con {s t : ByteArray} {Q : Res} (h : xsub s t Q) : Con Tryz.prog 12 [.str s, .str t] Q := by
  obtain ⟨x, y, rfl, rfl, sx, sy, hq⟩ := h
  refine conN (gn := fnT Tryz.f12) (by kernel_rfl) conX3_ok (inl := []) (LT := xsub_live) (NT := xsub_nils) rfl fun n0 => ?_
  rw [xsub_E]
  rw [Rat.sub_eq_add_neg] at hq
  exact ⟨y, rfl, sy, x, -y, rfl, rfl, sx, sz_neg sy, res_str hq⟩
theorem sz_zero : Sz 1 0 := by
  refine ⟨?_, ?_⟩
  · show dg (Rat.num 0).natAbs ≤ 1
    rw [show (Rat.num 0).natAbs = 0 from rfl, dg_zero]
    exact Nat.le_refl _
  · show dg (Rat.den 0) ≤ 1
    rw [show Rat.den 0 = 1 from rfl, dg_one]
    exact Nat.le_refl _
theorem sz_quo {x y : Rat} (sx : Sz 4000000000 x) (sy : Sz 4000000000 y) : Sz 9000000000 (x / y) := by
  by_cases h1 : y = 0
  · rw [h1, Rat.div_def, Rat.inv_zero, Rat.mul_zero]
    exact sz_zero.mono (by decide)
  have e1 := sz_n sx; have e2 := sz_d sx; have e3 := sz_n sy; have e4 := sz_d sy
  have m1 := dg_mul2 e1 e4
  have m3 := dg_mul2 e2 e3
  have hy : 0 < y.num.natAbs := by
    have : y.num ≠ 0 := fun h => h1 (Rat.num_eq_zero.1 h)
    omega
  have hquo : x / y = mkq (decide (x.num < 0)) x.num.natAbs x.den / mkq (decide (y.num < 0)) y.num.natAbs y.den := by rw [mkq_self, mkq_self]
  rw [mkq_quo _ _ _ _ _ _ (den_pos x) hy (den_pos y)] at hquo
  rw [hquo]
  have hp := Nat.mul_pos (den_pos x) hy
  exact ⟨Nat.le_trans (szN_mkq hp) (by omega), Nat.le_trans (szD_mkq hp) (by omega)⟩
section
variable {s t : ByteArray} {Q : Res}
end
end Go.Proofs.YtnjbabkfdcdkbaaGreatDoor.Lib
end
section
/- Package rat: lists of numbers: contracts by values. -/
set_option linter.unusedVariables false
namespace Go.Proofs.YtnjbabkfdcdkbaaGreatDoor.Lib
open Go Go.Proofs.YtnjbabkfdcdkbaaGreatDoor.Mach Go.Proofs.YtnjbabkfdcdkbaaGreatDoorW.PrintWords Go.Proofs.YtnjbabkfdcdkbaaGreatDoor.Sem Go.Proofs.YtnjbabkfdcdkbaaGreatDoor.Pure
end Go.Proofs.YtnjbabkfdcdkbaaGreatDoor.Lib
end
section
/- Equations of functions (printed). -/
namespace Go.Proofs.YtnjbabkfdcdkbaaGreatDoor.Mach
open Go Go.Proofs.YtnjbabkfdcdkbaaGreatDoor Go.Proofs.YtnjbabkfdcdkbaaGreatDoor.Lib
set_option linter.unusedVariables false
end Go.Proofs.YtnjbabkfdcdkbaaGreatDoor.Mach
end
section
/- Package rat: Sum, Best, Shares and Odds: the contracts hold. -/
set_option linter.unusedVariables false
set_option linter.unusedSimpArgs false
namespace Go.Proofs.YtnjbabkfdcdkbaaGreatDoor.Lib
open Go Go.Proofs.YtnjbabkfdcdkbaaGreatDoor.Mach Go.Proofs.YtnjbabkfdcdkbaaGreatDoorW.PrintWords Go.Proofs.YtnjbabkfdcdkbaaGreatDoor.Sem Go.Proofs.YtnjbabkfdcdkbaaGreatDoor.Pure
theorem seal_tup1 {e : ETy} {l : List e.D} {fz : Bool} {k : IntKind} {n : Int} : sealV [.typed e l fz] (.tup [.own 0, .int k n]) (.tup [.imm e l, .int k n]) :=
  ⟨_, rfl, .cons ⟨e, l, fz, rfl, rfl⟩ (.cons rfl .nil)⟩
theorem seal_nil1 {e : ETy} {k : IntKind} {n : Int} {objs : List HObj} : sealV objs (.tup [.nils, .int k n]) (.tup [.imm e [], .int k n]) :=
  ⟨_, rfl, .cons (Or.inr ⟨e, rfl⟩) (.cons rfl .nil)⟩
def outL (e : ETy) (l : List e.D) (n : Int) : Res := fun v o => (v = .tup [.own 0, .int .i64 n] ∧ ∃ fz, o = [.typed e l fz]) ∨ (l = [] ∧ v = .tup [.nils, .int .i64 n])
theorem outL_seal {e : ETy} {l : List e.D} {n : Int} {P : Program} {g : FuncId} {args : List AV} {Q : Res} (h : Con P g args (outL e l n)) (hQ : Q (.tup [.imm e l, .int .i64 n]) []) : Con P g args Q :=
  h.sealTo fun v o hv => by
    rcases hv with ⟨rfl, fz, rfl⟩ | ⟨rfl, rfl⟩
    · exact ⟨_, seal_tup1, hQ⟩
    · exact ⟨_, seal_nil1, hQ⟩
theorem outL_own {e : ETy} {l : List e.D} {fz : Bool} {n : Int} {id : Nat} {H : List HObj} (ho : objAt H id = .typed e l fz) : resK (outL e l n) (.tup [.own id, .int .i64 n]) H :=
  ⟨.tup [.own 0, .int .i64 n], [.typed e l fz], Or.inl ⟨rfl, fz, rfl⟩, rfl, rfl, [id], rfl, by simp, fun k i hk => by
    match k, hk with
    | 0, hk => cases hk; exact congrArg some ho.symm, rfl⟩
theorem outL_nil {e : ETy} {l : List e.D} {n : Int} {H : List HObj} (h : l = []) : resK (outL e l n) (.tup [.nils, .int .i64 n]) H := res_plain (Or.inr ⟨h, rfl⟩) rfl rfl
theorem errs_all : ∀ {l : List ByteArray}, ratErrs l = 0 → ∀ s ∈ l, ratErr s = 0
  | [], _, s, hs => absurd hs (by simp)
  | a :: l, h, s, hs => by
    unfold ratErrs at h
    split at h
    · rename_i h0
      rcases List.mem_cons.1 hs with rfl | hs
      · exact h0
      · exact errs_all h s hs
    · rename_i h0; exact absurd h h0
theorem fit_of {q : Rat} (h : Sz 2000 q) : fitV q = 0 := by
  unfold fitV
  rw [if_neg]
  have := h.1
  have := h.2
  rintro (h | h) <;> omega
theorem drop_at {l : List ByteArray} {x : Nat} (hx : x < l.length) : l.drop x = l.getD x ByteArray.empty :: l.drop (x + 1) := by
  rw [List.drop_eq_getElem_cons hx, List.getD_eq_getElem?_getD, List.getElem?_eq_getElem hx]; rfl
theorem num_at {l : List ByteArray} {x : Nat} (h : ratErrs l = 0) (hx : x < l.length) : l.getD x ByteArray.empty = ratText (ratOf (l.getD x ByteArray.empty)) ∧ Sz 2000 (ratOf (l.getD x ByteArray.empty)) := rat_ok (errs_all h _ (getD_mem hx))
section
variable {l : List ByteArray} {Q : Res}
end
end Go.Proofs.YtnjbabkfdcdkbaaGreatDoor.Lib
end
section
/- Vectors and matrices of rational numbers: contracts by values. -/
set_option linter.unusedVariables false
namespace Go.Proofs.YtnjbabkfdcdkbaaGreatDoor.Lib
open Go Go.Proofs.YtnjbabkfdcdkbaaGreatDoor.Mach Go.Proofs.YtnjbabkfdcdkbaaGreatDoorW.PrintWords Go.Proofs.YtnjbabkfdcdkbaaGreatDoor.Sem Go.Proofs.YtnjbabkfdcdkbaaGreatDoor.Pure
abbrev eQ : ETy := .more .bool (.more (.slice eW) (.one (.slice eW)))
abbrev eP : ETy := .more (.int .i64) (.one (.int .i64))
abbrev z0 : QT := (false, [], [])
abbrev b0 : ByteArray := ByteArray.empty
abbrev p0 : Int × Int := (0, 0)
def vLQ : View (List QT) := vRow eQ
def vG : View (List (List QT)) := vRow (eL eQ)
def vP : View (List (Int × Int)) := vRow eP
def vTT : View (List (List (List ByteArray))) := vRow (eL (eL eS))
structure QF (zs : List QT) (n : Nat) (f : Nat → Rat) : Prop where
  len : zs.length = n
  at_ : ∀ i, i < n → QV (zs.getD i z0) (f i)
structure GF (g : List (List QT)) (n w : Nat) (f : Nat → Nat → Rat) : Prop where
  len : g.length = n
  at_ : ∀ i, i < n → QF (g.getD i []) w (f i)
def sumTo (f : Nat → Rat) : Nat → Rat
  | 0 => 0
  | n + 1 => sumTo f n + f n
def wide (m : List (List ByteArray)) : Nat := (m.getD 0 []).length
noncomputable def vecErr (v : List ByteArray) : Int := if 40 < v.length then 2 else ratErrs v
noncomputable def rowErr (w : Nat) (r : List ByteArray) : Int := if r.length ≠ w then 3 else vecErr r
noncomputable def rowErrs (w : Nat) : List (List ByteArray) → Int
  | [] => 0
  | r :: l => if rowErr w r = 0 then rowErrs w l else rowErr w r
noncomputable def matErr (m : List (List ByteArray)) : Int := if 40 < m.length then 2 else rowErrs (wide m) m
noncomputable def gameErr (m : List (List ByteArray)) : Int := if 12 < m.length then 2 else if matErr m ≠ 0 then matErr m else if wide m = 0 then 8 else if 12 < wide m then 2 else 0
def TxM (m : List (List ByteArray)) : Prop := m.length ≤ 1000000000000000 ∧ ∀ r ∈ m, TxL r
noncomputable def vent (v : List ByteArray) (i : Nat) : Rat := ratOf (v.getD i b0)
noncomputable def ent (m : List (List ByteArray)) (i k : Nat) : Rat := ratOf ((m.getD i []).getD k b0)
def vecErrS (v : List ByteArray) (Q : Res) : Prop := TxL v ∧ Q (.int .i64 (vecErr v)) []
def matErrS (m : List (List ByteArray)) (Q : Res) : Prop := TxM m ∧ Q (.int .i64 (matErr m)) []
def gameErrS (m : List (List ByteArray)) (Q : Res) : Prop := TxM m ∧ Q (.int .i64 (gameErr m)) []
def wideS (m : List (List ByteArray)) (Q : Res) : Prop := Q (.int .i64 (wide m : Nat)) []
def TxN (n : Nat) : Prop := n ≤ 1000000000000
def rowS (v : List ByteArray) (Q : Res) : Prop := (ratErrs v = 0 ∧ TxN v.length) ∧ ∀ zs : List QT, QF zs v.length (vent v) → Q (.own 0) [.typed eQ zs false]
def gridS (m : List (List ByteArray)) (Q : Res) : Prop := matErr m = 0 ∧ ∀ g : List (List QT), GF g m.length (wide m) (ent m) → Q (.own 0) [.typed (eL eQ) g false]
noncomputable def vecE (n : Nat) (f : Nat → Rat) : Int := if ∀ i, i < n → fitV (f i) = 0 then 0 else 2
noncomputable def textsOf (n : Nat) (f : Nat → Rat) : List ByteArray := (List.range n).map fun i => ratText (f i)
noncomputable def vecV (n : Nat) (f : Nat → Rat) : List ByteArray := if vecE n f = 0 then textsOf n f else []
def SzF (k n : Nat) (f : Nat → Rat) : Prop := ∀ i, i < n → Sz k (f i)
def outVS (zs : List QT) (Q : Res) : Prop := ∃ (n : Nat) (f : Nat → Rat), QF zs n f ∧ TxN n ∧ SzF 9000000000 n f ∧ Q (.tup [.imm eS (vecV n f), .int .i64 (vecE n f)]) []
def wghtS (l : List (List ByteArray)) (Q : Res) : Prop := (l.length ≤ 1000000000000000 ∧ ∀ r ∈ l, r.length ≤ 1000000000000000) ∧ ∀ n : Int, Q (.int .i64 n) []
def getCl (f : Nat) : AV → Option Unit
  | .fn g cs => (match cs with | [] => (if g = f then some () else none) | _ => none)
  | _ => none
def vCl (f : Nat) : View Unit := ⟨getCl f, fun _ => .fn f [], fun {x a} h {c w v} hx => by
  unfold getCl at h
  split at h
  · split at h
    · split at h
      · rename_i hg; subst hg; exact hx
      · cases h
    · cases h
  · cases h⟩
def longI (k : Nat) (l : List ByteArray) : Int := match l.findIdx? fun s => decide (k < s.size) with | some i => (i : Int) | none => -1
def long12S (l : List ByteArray) (_ : Unit) (Q : Res) : Prop := l.length ≤ 1000000000000000 ∧ Q (.int .i64 (longI 12 l)) []
def vast1 (n : Int) (v : List ByteArray) : Bool := decide ((v.length : Int) > n) || decide (longI 12 v ≥ 0)
def vastM (n : Int) (m : List (List ByteArray)) : Bool := decide ((m.length : Int) > n) || m.any (vast1 n)
def vastV (n : Int) (ms : List (List (List ByteArray))) : Bool := ms.any (vastM n)
def TxMM (ms : List (List (List ByteArray))) : Prop := ms.length ≤ 1000000000000000 ∧ ∀ m ∈ ms, TxM m
def vastS (n : Int) (ms : List (List (List ByteArray))) (Q : Res) : Prop := TxMM ms ∧ Q (.bool (vastV n ms)) []
noncomputable def conM1 : FuncId → List AV → Res → Prop := tableC [(70, c1 vLS rchecksS), (71, c1 vS inS), (61, c1 vQ fitS), (49, c1 vQ outS), (47, c1 vLS rchecksS), (11, c2 vS vS xadd), (65, c2 vLS (vCl 34) long12S)]
noncomputable def conM2 : FuncId → List AV → Res → Prop := tableC [(42, c1 vLS vecErrS), (43, c1 vLS rowS), (14, c1 vLS vecErrS), (31, c1 vT wideS), (64, c1 vT wideS)]
noncomputable def conM3 : FuncId → List AV → Res → Prop := tableC [(63, c1 vT matErrS), (64, c1 vT wideS), (31, c1 vT wideS), (62, c1 vT matErrS)]
end Go.Proofs.YtnjbabkfdcdkbaaGreatDoor.Lib
end
section
/- Equations of functions (printed). -/
namespace Go.Proofs.YtnjbabkfdcdkbaaGreatDoor.Mach
open Go Go.Proofs.YtnjbabkfdcdkbaaGreatDoor Go.Proofs.YtnjbabkfdcdkbaaGreatDoor.Lib
set_option linter.unusedVariables false
def qint_live : List (Nat × List Nat) := []
def qint_nils : List (Nat × ETy) := []
set_option maxRecDepth 1000000 in
theorem qint_E (n : Int) (n0 : Nat) (K : AV → List HObj → Prop) :
    execN tab (mixE tab conQ1 [] 400) (maskN qint_live qint_nils (GoodL Tryz.prog n0 45 K)) (finK tab (fnT Tryz.f45).res K) 400 [.code (fnT Tryz.f45).body] ⟨initEnv (fnT Tryz.f45).n [AV.int IntKind.i64 n], []⟩ =
    (bif decide (n < 0) then NatI (IntKind.i64.wrap (0 - n)) ∧ NatI 1 ∧ K (AV.agg [AV.bool true, AV.imm (ETy.one (CTy.int IntKind.u32)) (Sem.limbsOf (IntKind.i64.wrap (0 - n)).toNat), AV.imm (ETy.one (CTy.int IntKind.u32)) (Sem.limbsOf 1)]) [HObj.box [AV.bool true, AV.imm (ETy.one (CTy.int IntKind.u32)) (Sem.limbsOf (IntKind.i64.wrap (0 - n)).toNat), AV.imm (ETy.one (CTy.int IntKind.u32)) (Sem.limbsOf 1)]] else NatI n ∧ NatI 1 ∧ K (AV.agg [AV.bool false, AV.imm (ETy.one (CTy.int IntKind.u32)) (Sem.limbsOf n.toNat), AV.imm (ETy.one (CTy.int IntKind.u32)) (Sem.limbsOf 1)]) [HObj.box [AV.bool false, AV.imm (ETy.one (CTy.int IntKind.u32)) (Sem.limbsOf n.toNat), AV.imm (ETy.one (CTy.int IntKind.u32)) (Sem.limbsOf 1)]]) := by kernel_rfl
def mvec_live : List (Nat × List Nat) := []
def mvec_nils : List (Nat × ETy) := []
set_option maxRecDepth 1000000 in
theorem mvec_E (v : List ByteArray) (n0 : Nat) (K : AV → List HObj → Prop) :
    execN tab (mixE tab conM1 [] 400) (maskN mvec_live mvec_nils (GoodL Tryz.prog n0 42 K)) (finK tab (fnT Tryz.f42).res K) 400 [.code (fnT Tryz.f42).body] ⟨initEnv (fnT Tryz.f42).n [AV.imm (ETy.one CTy.str) v], []⟩ =
    (bif decide ((↑v.length : Int) > 40) then K (AV.int IntKind.i64 2) [] else TxL v ∧ K (AV.int IntKind.i64 (ratErrs v)) []) := by kernel_rfl
def mcheck_live : List (Nat × List Nat) := [(4, [0, 9, 10, 11])]
def mcheck_nils : List (Nat × ETy) := [(9, ETy.one (CTy.slice (ETy.one CTy.str)))]
noncomputable def mcheck_s4_0 (m : List (List ByteArray)) (x0 : Int) (x1 : Int) : St := stOf 28 [(0, AV.imm (ETy.one (CTy.slice (ETy.one CTy.str))) m), (9, AV.imm (ETy.one (CTy.slice (ETy.one CTy.str))) m), (10, AV.int IntKind.i64 x0), (11, AV.int IntKind.i64 x1)] []
set_option maxRecDepth 1000000 in
theorem mcheck_E (m : List (List ByteArray)) (n0 : Nat) (K : AV → List HObj → Prop) :
    execN tab (mixE tab conM2 [] 400) (maskN mcheck_live mcheck_nils (GoodL Tryz.prog n0 63 K)) (finK tab (fnT Tryz.f63).res K) 400 [.code (fnT Tryz.f63).body] ⟨initEnv (fnT Tryz.f63).n [AV.imm (ETy.one (CTy.slice (ETy.one CTy.str))) m], []⟩ =
    (bif decide ((↑m.length : Int) > 40) then K (AV.int IntKind.i64 2) [] else GoodL Tryz.prog n0 63 K (headAt (fnT Tryz.f63) 4) (mcheck_s4_0 m (↑m.length : Int) 0)) := by kernel_rfl
set_option maxRecDepth 1000000 in
theorem mcheck_s4_0_E (m : List (List ByteArray)) (x0 : Int) (x1 : Int) (n0 : Nat) (K : AV → List HObj → Prop) :
    execN tab (mixE tab conM2 [] 400) (maskN mcheck_live mcheck_nils (GoodL Tryz.prog n0 63 K)) (finK tab (fnT Tryz.f63).res K) 400 (roundAt (fnT Tryz.f63) 4) (mcheck_s4_0 m x0 x1) =
    (bif decide (x1 < x0) then bif decide (0 ≤ x1) && decide (x1 < (↑m.length : Int)) then bif decide (0 < (↑m.length : Int)) then bif !decide ((↑(List.length (m.getD x1.toNat [])) : Int) = (↑(List.length (m.getD 0 [])) : Int)) then K (AV.int IntKind.i64 3) [] else TxL (m.getD x1.toNat []) ∧ bif !decide (vecErr (m.getD x1.toNat []) = 0) then K (AV.int IntKind.i64 (vecErr (m.getD x1.toNat []))) [] else GoodL Tryz.prog n0 63 K (headAt (fnT Tryz.f63) 4) (mcheck_s4_0 m x0 (IntKind.i64.wrap (x1 + 1))) else False else False else K (AV.int IntKind.i64 0) []) := by kernel_rfl
def mwidth_live : List (Nat × List Nat) := []
def mwidth_nils : List (Nat × ETy) := []
set_option maxRecDepth 1000000 in
theorem mwidth_E (m : List (List ByteArray)) (n0 : Nat) (K : AV → List HObj → Prop) :
    execN tab (mixE tab conM1 [] 400) (maskN mwidth_live mwidth_nils (GoodL Tryz.prog n0 64 K)) (finK tab (fnT Tryz.f64).res K) 400 [.code (fnT Tryz.f64).body] ⟨initEnv (fnT Tryz.f64).n [AV.imm (ETy.one (CTy.slice (ETy.one CTy.str))) m], []⟩ =
    (bif decide ((↑m.length : Int) = 0) then K (AV.int IntKind.i64 0) [] else bif decide (0 < (↑m.length : Int)) then K (AV.int IntKind.i64 (↑(List.length (m.getD 0 [])) : Int)) [] else False) := by kernel_rfl
def mrow_live : List (Nat × List Nat) := [(3, [3, 6, 7, 8])]
def mrow_nils : List (Nat × ETy) := [(3, ETy.more CTy.bool (ETy.more (CTy.slice (ETy.one (CTy.int IntKind.u32))) (ETy.one (CTy.slice (ETy.one (CTy.int IntKind.u32)))))), (6, ETy.one CTy.str)]
noncomputable def mrow_s3_0 (v : List ByteArray) (x0 : Int) (x1 : Int) (x2 : List (Bool × List Int × List Int)) : St := stOf 19 [(3, AV.own 0), (6, AV.imm (ETy.one CTy.str) v), (7, AV.int IntKind.i64 x0), (8, AV.int IntKind.i64 x1)] [HObj.typed (ETy.more CTy.bool (ETy.more (CTy.slice (ETy.one (CTy.int IntKind.u32))) (ETy.one (CTy.slice (ETy.one (CTy.int IntKind.u32)))))) x2 false]
set_option maxRecDepth 1000000 in
theorem mrow_E (v : List ByteArray) (n0 : Nat) (K : AV → List HObj → Prop) :
    execN tab (mixE tab conM1 [] 400) (maskN mrow_live mrow_nils (GoodL Tryz.prog n0 43 K)) (finK tab (fnT Tryz.f43).res K) 400 [.code (fnT Tryz.f43).body] ⟨initEnv (fnT Tryz.f43).n [AV.imm (ETy.one CTy.str) v], []⟩ =
    (GoodL Tryz.prog n0 43 K (headAt (fnT Tryz.f43) 3) (mrow_s3_0 v (↑v.length : Int) 0 [])) := by kernel_rfl
set_option maxRecDepth 1000000 in
theorem mrow_s3_0_E (v : List ByteArray) (x0 : Int) (x1 : Int) (x2 : List (Bool × List Int × List Int)) (n0 : Nat) (K : AV → List HObj → Prop) :
    execN tab (mixE tab conM1 [] 400) (maskN mrow_live mrow_nils (GoodL Tryz.prog n0 43 K)) (finK tab (fnT Tryz.f43).res K) 400 (roundAt (fnT Tryz.f43) 3) (mrow_s3_0 v x0 x1 x2) =
    (bif decide (x1 < x0) then bif decide (0 ≤ x1) && decide (x1 < (↑v.length : Int)) then ∃ q, v.getD x1.toNat ByteArray.empty = Sem.ratText q ∧ Sz 4000000000 q ∧ ∀ (z : Bool × List Int × List Int), Sem.QV z q → bif bif (x2.length + [(z.1, z.2.1, z.2.2)].length).ble 9223372036854775807 then ((x2.length + [(z.1, z.2.1, z.2.2)].length) * 56).ble 140737488355328 else false then GoodL Tryz.prog n0 43 K (headAt (fnT Tryz.f43) 3) (mrow_s3_0 v x0 (IntKind.i64.wrap (x1 + 1)) (x2 ++ [(z.1, z.2.1, z.2.2)])) else False else False else K (AV.own 0) [HObj.typed (ETy.more CTy.bool (ETy.more (CTy.slice (ETy.one (CTy.int IntKind.u32))) (ETy.one (CTy.slice (ETy.one (CTy.int IntKind.u32)))))) x2 false]) := by kernel_rfl
def mgrid_live : List (Nat × List Nat) := [(3, [3, 6, 7, 8])]
def mgrid_nils : List (Nat × ETy) := [(3, ETy.one (CTy.slice (ETy.more CTy.bool (ETy.more (CTy.slice (ETy.one (CTy.int IntKind.u32))) (ETy.one (CTy.slice (ETy.one (CTy.int IntKind.u32)))))))), (6, ETy.one (CTy.slice (ETy.one CTy.str)))]
noncomputable def mgrid_s3_0 (m : List (List ByteArray)) (x0 : Int) (x1 : Int) (x2 : List (List (Bool × List Int × List Int))) : St := stOf 19 [(3, AV.own 0), (6, AV.imm (ETy.one (CTy.slice (ETy.one CTy.str))) m), (7, AV.int IntKind.i64 x0), (8, AV.int IntKind.i64 x1)] [HObj.typed (ETy.one (CTy.slice (ETy.more CTy.bool (ETy.more (CTy.slice (ETy.one (CTy.int IntKind.u32))) (ETy.one (CTy.slice (ETy.one (CTy.int IntKind.u32)))))))) x2 false]
set_option maxRecDepth 1000000 in
theorem mgrid_E (m : List (List ByteArray)) (n0 : Nat) (K : AV → List HObj → Prop) :
    execN tab (mixE tab conM2 [] 400) (maskN mgrid_live mgrid_nils (GoodL Tryz.prog n0 25 K)) (finK tab (fnT Tryz.f25).res K) 400 [.code (fnT Tryz.f25).body] ⟨initEnv (fnT Tryz.f25).n [AV.imm (ETy.one (CTy.slice (ETy.one CTy.str))) m], []⟩ =
    (GoodL Tryz.prog n0 25 K (headAt (fnT Tryz.f25) 3) (mgrid_s3_0 m (↑m.length : Int) 0 [])) := by kernel_rfl
set_option maxRecDepth 1000000 in
theorem mgrid_s3_0_E (m : List (List ByteArray)) (x0 : Int) (x1 : Int) (x2 : List (List (Bool × List Int × List Int))) (n0 : Nat) (K : AV → List HObj → Prop) :
    execN tab (mixE tab conM2 [] 400) (maskN mgrid_live mgrid_nils (GoodL Tryz.prog n0 25 K)) (finK tab (fnT Tryz.f25).res K) 400 (roundAt (fnT Tryz.f25) 3) (mgrid_s3_0 m x0 x1 x2) =
    (bif decide (x1 < x0) then bif decide (0 ≤ x1) && decide (x1 < (↑m.length : Int)) then (ratErrs (m.getD x1.toNat []) = 0 ∧ TxN (List.length (m.getD x1.toNat []))) ∧ ∀ (zs : List QT), QF zs (List.length (m.getD x1.toNat [])) (vent (m.getD x1.toNat [])) → bif bif (x2.length + [zs].length).ble 9223372036854775807 then ((x2.length + [zs].length) * 24).ble 140737488355328 else false then GoodL Tryz.prog n0 25 K (headAt (fnT Tryz.f25) 3) (mgrid_s3_0 m x0 (IntKind.i64.wrap (x1 + 1)) (x2 ++ [zs])) else False else False else K (AV.own 0) [HObj.typed (ETy.one (CTy.slice (ETy.more CTy.bool (ETy.more (CTy.slice (ETy.one (CTy.int IntKind.u32))) (ETy.one (CTy.slice (ETy.one (CTy.int IntKind.u32)))))))) x2 false]) := by kernel_rfl
def mout_live : List (Nat × List Nat) := [(3, [4, 8, 9, 10])]
def mout_nils : List (Nat × ETy) := [(4, ETy.one CTy.str), (8, ETy.more CTy.bool (ETy.more (CTy.slice (ETy.one (CTy.int IntKind.u32))) (ETy.one (CTy.slice (ETy.one (CTy.int IntKind.u32))))))]
noncomputable def mout_s3_0 (l : List (Bool × List Int × List Int)) (x0 : Int) (x1 : Int) (x2 : List ByteArray) : St := stOf 26 [(4, AV.own 0), (8, AV.imm (ETy.more CTy.bool (ETy.more (CTy.slice (ETy.one (CTy.int IntKind.u32))) (ETy.one (CTy.slice (ETy.one (CTy.int IntKind.u32)))))) l), (9, AV.int IntKind.i64 x0), (10, AV.int IntKind.i64 x1)] [HObj.typed (ETy.one CTy.str) x2 false]
set_option maxRecDepth 1000000 in
theorem mout_E (l : List (Bool × List Int × List Int)) (n0 : Nat) (K : AV → List HObj → Prop) :
    execN tab (mixE tab conM1 [] 400) (maskN mout_live mout_nils (GoodL Tryz.prog n0 29 K)) (finK tab (fnT Tryz.f29).res K) 400 [.code (fnT Tryz.f29).body] ⟨initEnv (fnT Tryz.f29).n [AV.imm (ETy.more CTy.bool (ETy.more (CTy.slice (ETy.one (CTy.int IntKind.u32))) (ETy.one (CTy.slice (ETy.one (CTy.int IntKind.u32)))))) l], []⟩ =
    (GoodL Tryz.prog n0 29 K (headAt (fnT Tryz.f29) 3) (mout_s3_0 l (↑l.length : Int) 0 [])) := by kernel_rfl
set_option maxRecDepth 1000000 in
theorem mout_s3_0_E (l : List (Bool × List Int × List Int)) (x0 : Int) (x1 : Int) (x2 : List ByteArray) (n0 : Nat) (K : AV → List HObj → Prop) :
    execN tab (mixE tab conM1 [] 400) (maskN mout_live mout_nils (GoodL Tryz.prog n0 29 K)) (finK tab (fnT Tryz.f29).res K) 400 (roundAt (fnT Tryz.f29) 3) (mout_s3_0 l x0 x1 x2) =
    (bif decide (x1 < x0) then bif decide (0 ≤ x1) && decide (x1 < (↑l.length : Int)) then ∃ q, Sem.QV ((l.getD x1.toNat (false, [], [])).1, (l.getD x1.toNat (false, [], [])).2.1, (l.getD x1.toNat (false, [], [])).2.2) q ∧ Sz 9000000000 q ∧ bif !decide (fitV q = 0) then K (AV.tup [AV.nils, AV.int IntKind.i64 (fitV q)]) [HObj.typed (ETy.one CTy.str) x2 false, HObj.box [AV.bool (l.getD x1.toNat (false, [], [])).1, AV.imm (ETy.one (CTy.int IntKind.u32)) (l.getD x1.toNat (false, [], [])).2.1, AV.imm (ETy.one (CTy.int IntKind.u32)) (l.getD x1.toNat (false, [], [])).2.2]] else ∃ q, Sem.QV ((l.getD x1.toNat (false, [], [])).1, (l.getD x1.toNat (false, [], [])).2.1, (l.getD x1.toNat (false, [], [])).2.2) q ∧ Sz 9000000000 q ∧ bif bif (x2.length + [Sem.ratText q].length).ble 9223372036854775807 then ((x2.length + [Sem.ratText q].length) * 16).ble 140737488355328 else false then GoodL Tryz.prog n0 29 K (headAt (fnT Tryz.f29) 3) (mout_s3_0 l x0 (IntKind.i64.wrap (x1 + 1)) (x2 ++ [Sem.ratText q])) else False else False else K (AV.tup [AV.own 0, AV.int IntKind.i64 0]) [HObj.typed (ETy.one CTy.str) x2 false]) := by kernel_rfl
def gcheck_live : List (Nat × List Nat) := []
def gcheck_nils : List (Nat × ETy) := []
set_option maxRecDepth 1000000 in
theorem gcheck_E (m : List (List ByteArray)) (n0 : Nat) (K : AV → List HObj → Prop) :
    execN tab (mixE tab conM3 [] 400) (maskN gcheck_live gcheck_nils (GoodL Tryz.prog n0 32 K)) (finK tab (fnT Tryz.f32).res K) 400 [.code (fnT Tryz.f32).body] ⟨initEnv (fnT Tryz.f32).n [AV.imm (ETy.one (CTy.slice (ETy.one CTy.str))) m], []⟩ =
    (bif decide ((↑m.length : Int) > 12) then K (AV.int IntKind.i64 2) [] else TxM m ∧ bif !decide (matErr m = 0) then K (AV.int IntKind.i64 (matErr m)) [] else bif decide ((↑(wide m) : Int) = 0) then K (AV.int IntKind.i64 8) [] else bif decide (0 < (↑m.length : Int)) then bif decide ((↑(List.length (m.getD 0 [])) : Int) > 12) then K (AV.int IntKind.i64 2) [] else K (AV.int IntKind.i64 0) [] else False) := by kernel_rfl
def xvec_live : List (Nat × List Nat) := []
def xvec_nils : List (Nat × ETy) := []
set_option maxRecDepth 1000000 in
theorem xvec_E (v : List ByteArray) (n0 : Nat) (K : AV → List HObj → Prop) :
    execN tab (mixE tab conM1 [] 400) (maskN xvec_live xvec_nils (GoodL Tryz.prog n0 14 K)) (finK tab (fnT Tryz.f14).res K) 400 [.code (fnT Tryz.f14).body] ⟨initEnv (fnT Tryz.f14).n [AV.imm (ETy.one CTy.str) v], []⟩ =
    (bif decide ((↑v.length : Int) > 40) then K (AV.int IntKind.i64 2) [] else TxL v ∧ K (AV.int IntKind.i64 (ratErrs v)) []) := by kernel_rfl
def xmat_live : List (Nat × List Nat) := [(4, [0, 9, 10])]
def xmat_nils : List (Nat × ETy) := []
noncomputable def xmat_s4_0 (m : List (List ByteArray)) (x0 : Int) (x1 : Int) : St := stOf 32 [(0, AV.imm (ETy.one (CTy.slice (ETy.one CTy.str))) m), (9, AV.int IntKind.i64 x0), (10, AV.int IntKind.i64 x1)] []
set_option maxRecDepth 1000000 in
theorem xmat_E (m : List (List ByteArray)) (n0 : Nat) (K : AV → List HObj → Prop) :
    execN tab (mixE tab conM2 [] 400) (maskN xmat_live xmat_nils (GoodL Tryz.prog n0 62 K)) (finK tab (fnT Tryz.f62).res K) 400 [.code (fnT Tryz.f62).body] ⟨initEnv (fnT Tryz.f62).n [AV.imm (ETy.one (CTy.slice (ETy.one CTy.str))) m], []⟩ =
    (bif decide ((↑m.length : Int) > 40) then K (AV.int IntKind.i64 2) [] else GoodL Tryz.prog n0 62 K (headAt (fnT Tryz.f62) 4) (xmat_s4_0 m (↑m.length : Int) 0)) := by kernel_rfl
set_option maxRecDepth 1000000 in
theorem xmat_s4_0_E (m : List (List ByteArray)) (x0 : Int) (x1 : Int) (n0 : Nat) (K : AV → List HObj → Prop) :
    execN tab (mixE tab conM2 [] 400) (maskN xmat_live xmat_nils (GoodL Tryz.prog n0 62 K)) (finK tab (fnT Tryz.f62).res K) 400 (roundAt (fnT Tryz.f62) 4) (xmat_s4_0 m x0 x1) =
    (bif decide (x1 < x0) then bif decide (0 ≤ x1) && decide (x1 < (↑m.length : Int)) then bif decide (0 < (↑m.length : Int)) then bif !decide ((↑(List.length (m.getD x1.toNat [])) : Int) = (↑(List.length (m.getD 0 [])) : Int)) then K (AV.int IntKind.i64 3) [] else bif decide (0 ≤ x1) && decide (x1 < (↑m.length : Int)) then TxL (m.getD x1.toNat []) ∧ bif !decide (vecErr (m.getD x1.toNat []) = 0) then K (AV.int IntKind.i64 (vecErr (m.getD x1.toNat []))) [] else GoodL Tryz.prog n0 62 K (headAt (fnT Tryz.f62) 4) (xmat_s4_0 m x0 (IntKind.i64.wrap (x1 + 1))) else False else False else False else K (AV.int IntKind.i64 0) []) := by kernel_rfl
def xwide_live : List (Nat × List Nat) := []
def xwide_nils : List (Nat × ETy) := []
set_option maxRecDepth 1000000 in
theorem xwide_E (m : List (List ByteArray)) (n0 : Nat) (K : AV → List HObj → Prop) :
    execN tab (mixE tab conM1 [] 400) (maskN xwide_live xwide_nils (GoodL Tryz.prog n0 31 K)) (finK tab (fnT Tryz.f31).res K) 400 [.code (fnT Tryz.f31).body] ⟨initEnv (fnT Tryz.f31).n [AV.imm (ETy.one (CTy.slice (ETy.one CTy.str))) m], []⟩ =
    (bif decide ((↑m.length : Int) > 0) then bif decide (0 < (↑m.length : Int)) then K (AV.int IntKind.i64 (↑(List.length (m.getD 0 [])) : Int)) [] else False else K (AV.int IntKind.i64 0) []) := by kernel_rfl
def lgame_live : List (Nat × List Nat) := []
def lgame_nils : List (Nat × ETy) := []
set_option maxRecDepth 1000000 in
theorem lgame_E (m : List (List ByteArray)) (n0 : Nat) (K : AV → List HObj → Prop) :
    execN tab (mixE tab conM3 [] 400) (maskN lgame_live lgame_nils (GoodL Tryz.prog n0 30 K)) (finK tab (fnT Tryz.f30).res K) 400 [.code (fnT Tryz.f30).body] ⟨initEnv (fnT Tryz.f30).n [AV.imm (ETy.one (CTy.slice (ETy.one CTy.str))) m], []⟩ =
    (bif decide ((↑m.length : Int) > 12) then K (AV.int IntKind.i64 2) [] else TxM m ∧ bif !decide (matErr m = 0) then K (AV.int IntKind.i64 (matErr m)) [] else bif decide ((↑(wide m) : Int) = 0) then K (AV.int IntKind.i64 8) [] else bif decide ((↑(wide m) : Int) > 12) then K (AV.int IntKind.i64 2) [] else K (AV.int IntKind.i64 0) []) := by kernel_rfl
def lweight_live : List (Nat × List Nat) := [(3, [3, 8, 9, 10]), (6, [3, 8, 9, 10, 14, 15, 16])]
def lweight_nils : List (Nat × ETy) := [(8, ETy.one (CTy.slice (ETy.one CTy.str))), (14, ETy.one CTy.str)]
noncomputable def lweight_s3_0 (l : List (List ByteArray)) (x0 : Int) (x1 : Int) (x2 : Int) : St := stOf 27 [(3, AV.int IntKind.i64 x0), (8, AV.imm (ETy.one (CTy.slice (ETy.one CTy.str))) l), (9, AV.int IntKind.i64 x1), (10, AV.int IntKind.i64 x2)] []
noncomputable def lweight_s6_0 (l : List (List ByteArray)) (x0 : Int) (x1 : Int) (x2 : Int) (x3 : List ByteArray) (x4 : Int) (x5 : Int) : St := stOf 27 [(3, AV.int IntKind.i64 x0), (8, AV.imm (ETy.one (CTy.slice (ETy.one CTy.str))) l), (9, AV.int IntKind.i64 x1), (10, AV.int IntKind.i64 x2), (14, AV.imm (ETy.one CTy.str) x3), (15, AV.int IntKind.i64 x4), (16, AV.int IntKind.i64 x5)] []
set_option maxRecDepth 1000000 in
theorem lweight_E (l : List (List ByteArray)) (n0 : Nat) (K : AV → List HObj → Prop) :
    execN tab (mixE tab conM1 [] 400) (maskN lweight_live lweight_nils (GoodL Tryz.prog n0 6 K)) (finK tab (fnT Tryz.f6).res K) 400 [.code (fnT Tryz.f6).body] ⟨initEnv (fnT Tryz.f6).n [AV.imm (ETy.one (CTy.slice (ETy.one CTy.str))) l], []⟩ =
    (GoodL Tryz.prog n0 6 K (headAt (fnT Tryz.f6) 3) (lweight_s3_0 l 0 (↑l.length : Int) 0)) := by kernel_rfl
set_option maxRecDepth 1000000 in
theorem lweight_s3_0_E (l : List (List ByteArray)) (x0 : Int) (x1 : Int) (x2 : Int) (n0 : Nat) (K : AV → List HObj → Prop) :
    execN tab (mixE tab conM1 [] 400) (maskN lweight_live lweight_nils (GoodL Tryz.prog n0 6 K)) (finK tab (fnT Tryz.f6).res K) 400 (roundAt (fnT Tryz.f6) 3) (lweight_s3_0 l x0 x1 x2) =
    (bif decide (x2 < x1) then bif decide (0 ≤ x2) && decide (x2 < (↑l.length : Int)) then GoodL Tryz.prog n0 6 K (headAt (fnT Tryz.f6) 6) (lweight_s6_0 l x0 x1 x2 (l.getD x2.toNat []) (↑(List.length (l.getD x2.toNat [])) : Int) 0) else False else K (AV.int IntKind.i64 x0) []) := by kernel_rfl
set_option maxRecDepth 1000000 in
theorem lweight_s6_0_E (l : List (List ByteArray)) (x0 : Int) (x1 : Int) (x2 : Int) (x3 : List ByteArray) (x4 : Int) (x5 : Int) (n0 : Nat) (K : AV → List HObj → Prop) :
    execN tab (mixE tab conM1 [] 400) (maskN lweight_live lweight_nils (GoodL Tryz.prog n0 6 K)) (finK tab (fnT Tryz.f6).res K) 400 (roundAt (fnT Tryz.f6) 6) (lweight_s6_0 l x0 x1 x2 x3 x4 x5) =
    (bif decide (x5 < x4) then bif decide (0 ≤ x5) && decide (x5 < (↑x3.length : Int)) then GoodL Tryz.prog n0 6 K (headAt (fnT Tryz.f6) 6) (lweight_s6_0 l (IntKind.i64.wrap (x0 + (↑(ByteArray.size (x3.getD x5.toNat ByteArray.empty)) : Int))) x1 x2 x3 x4 (IntKind.i64.wrap (x5 + 1))) else False else GoodL Tryz.prog n0 6 K (headAt (fnT Tryz.f6) 3) (lweight_s3_0 l x0 x1 (IntKind.i64.wrap (x2 + 1)))) := by kernel_rfl
def vlong_live : List (Nat × List Nat) := [(2, [0, 1, 7, 8])]
def vlong_nils : List (Nat × ETy) := []
noncomputable def vlong_s2_0 (l : List ByteArray) (x0 : Int) (x1 : Int) : St := stOf 19 [(0, AV.imm (ETy.one CTy.str) l), (1, AV.fn 34 []), (7, AV.int IntKind.i64 x0), (8, AV.int IntKind.i64 x1)] []
set_option maxRecDepth 1000000 in
theorem vlong_E (l : List ByteArray) (n0 : Nat) (K : AV → List HObj → Prop) :
    execN tab (mixE tab con0 [34] 400) (maskN vlong_live vlong_nils (GoodL Tryz.prog n0 65 K)) (finK tab (fnT Tryz.f65).res K) 400 [.code (fnT Tryz.f65).body] ⟨initEnv (fnT Tryz.f65).n [AV.imm (ETy.one CTy.str) l, AV.fn 34 []], []⟩ =
    (GoodL Tryz.prog n0 65 K (headAt (fnT Tryz.f65) 2) (vlong_s2_0 l (↑l.length : Int) 0)) := by kernel_rfl
set_option maxRecDepth 1000000 in
theorem vlong_s2_0_E (l : List ByteArray) (x0 : Int) (x1 : Int) (n0 : Nat) (K : AV → List HObj → Prop) :
    execN tab (mixE tab con0 [34] 400) (maskN vlong_live vlong_nils (GoodL Tryz.prog n0 65 K)) (finK tab (fnT Tryz.f65).res K) 400 (roundAt (fnT Tryz.f65) 2) (vlong_s2_0 l x0 x1) =
    (bif decide (x1 < x0) then bif decide (0 ≤ x1) && decide (x1 < (↑l.length : Int)) then bif decide ((↑(ByteArray.size (l.getD x1.toNat ByteArray.empty)) : Int) > 12) then K (AV.int IntKind.i64 x1) [] else GoodL Tryz.prog n0 65 K (headAt (fnT Tryz.f65) 2) (vlong_s2_0 l x0 (IntKind.i64.wrap (x1 + 1))) else False else K (AV.int IntKind.i64 (-1)) []) := by kernel_rfl
def lvast_live : List (Nat × List Nat) := [(2, [0, 9, 10, 11]), (7, [0, 9, 10, 11, 19, 20, 21])]
def lvast_nils : List (Nat × ETy) := [(9, ETy.one (CTy.slice (ETy.one (CTy.slice (ETy.one CTy.str))))), (19, ETy.one (CTy.slice (ETy.one CTy.str)))]
noncomputable def lvast_s2_0 (n : Int) (l : List (List (List ByteArray))) (x0 : Int) (x1 : Int) : St := stOf 35 [(0, AV.int IntKind.i64 n), (9, AV.imm (ETy.one (CTy.slice (ETy.one (CTy.slice (ETy.one CTy.str))))) l), (10, AV.int IntKind.i64 x0), (11, AV.int IntKind.i64 x1)] []
noncomputable def lvast_s7_0 (n : Int) (l : List (List (List ByteArray))) (x0 : Int) (x1 : Int) (x2 : List (List ByteArray)) (x3 : Int) (x4 : Int) : St := stOf 35 [(0, AV.int IntKind.i64 n), (9, AV.imm (ETy.one (CTy.slice (ETy.one (CTy.slice (ETy.one CTy.str))))) l), (10, AV.int IntKind.i64 x0), (11, AV.int IntKind.i64 x1), (19, AV.imm (ETy.one (CTy.slice (ETy.one CTy.str))) x2), (20, AV.int IntKind.i64 x3), (21, AV.int IntKind.i64 x4)] []
set_option maxRecDepth 1000000 in
theorem lvast_E (n : Int) (l : List (List (List ByteArray))) (n0 : Nat) (K : AV → List HObj → Prop) :
    execN tab (mixE tab conM1 [33] 400) (maskN lvast_live lvast_nils (GoodL Tryz.prog n0 10 K)) (finK tab (fnT Tryz.f10).res K) 400 [.code (fnT Tryz.f10).body] ⟨initEnv (fnT Tryz.f10).n [AV.int IntKind.i64 n, AV.imm (ETy.one (CTy.slice (ETy.one (CTy.slice (ETy.one CTy.str))))) l], []⟩ =
    (GoodL Tryz.prog n0 10 K (headAt (fnT Tryz.f10) 2) (lvast_s2_0 n l (↑l.length : Int) 0)) := by kernel_rfl
set_option maxRecDepth 1000000 in
theorem lvast_s2_0_E (n : Int) (l : List (List (List ByteArray))) (x0 : Int) (x1 : Int) (n0 : Nat) (K : AV → List HObj → Prop) :
    execN tab (mixE tab conM1 [33] 400) (maskN lvast_live lvast_nils (GoodL Tryz.prog n0 10 K)) (finK tab (fnT Tryz.f10).res K) 400 (roundAt (fnT Tryz.f10) 2) (lvast_s2_0 n l x0 x1) =
    (bif decide (x1 < x0) then bif decide (0 ≤ x1) && decide (x1 < (↑l.length : Int)) then bif decide ((↑(List.length (l.getD x1.toNat [])) : Int) > n) then K (AV.bool true) [] else GoodL Tryz.prog n0 10 K (headAt (fnT Tryz.f10) 7) (lvast_s7_0 n l x0 x1 (l.getD x1.toNat []) (↑(List.length (l.getD x1.toNat [])) : Int) 0) else False else K (AV.bool false) []) := by kernel_rfl
set_option maxRecDepth 1000000 in
theorem lvast_s7_0_E (n : Int) (l : List (List (List ByteArray))) (x0 : Int) (x1 : Int) (x2 : List (List ByteArray)) (x3 : Int) (x4 : Int) (n0 : Nat) (K : AV → List HObj → Prop) :
    execN tab (mixE tab conM1 [33] 400) (maskN lvast_live lvast_nils (GoodL Tryz.prog n0 10 K)) (finK tab (fnT Tryz.f10).res K) 400 (roundAt (fnT Tryz.f10) 7) (lvast_s7_0 n l x0 x1 x2 x3 x4) =
    (bif decide (x4 < x3) then bif decide (0 ≤ x4) && decide (x4 < (↑x2.length : Int)) then bif decide ((↑(List.length (x2.getD x4.toNat [])) : Int) > n) then K (AV.bool true) [] else List.length (x2.getD x4.toNat []) ≤ 1000000000000000 ∧ bif bif false then true else decide (longI 12 (x2.getD x4.toNat []) ≥ 0) then K (AV.bool true) [] else GoodL Tryz.prog n0 10 K (headAt (fnT Tryz.f10) 7) (lvast_s7_0 n l x0 x1 x2 x3 (IntKind.i64.wrap (x4 + 1))) else False else GoodL Tryz.prog n0 10 K (headAt (fnT Tryz.f10) 2) (lvast_s2_0 n l x0 (IntKind.i64.wrap (x1 + 1)))) := by kernel_rfl
end Go.Proofs.YtnjbabkfdcdkbaaGreatDoor.Mach
end
