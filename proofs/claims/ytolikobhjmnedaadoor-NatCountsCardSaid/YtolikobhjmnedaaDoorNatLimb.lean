/- Package nat's inner functions over limbs in the base 10^9: trim, Read, Cmp, Add, Sub. -/
import Derived.Test.YtolikobhjmnedaaDoorNatCheck
import Derived.Test.YtolikobhjmnedaaDoorNatVal
import Derived.Lib.Strings
set_option linter.unusedSimpArgs false
set_option linter.unusedVariables false
namespace Go.Proofs.YtolikobhjmnedaaDoor.Pure
open Go.RowKit Go.Proofs.YtolikobhjmnedaaDoor.GN Go.Proofs.YtolikobhjmnedaaDoorW.PrintWords Go.Proofs.YtolikobhjmnedaaDoorW.PrintLast Go.Proofs.YtolikobhjmnedaaDoor.Aid Go.Proofs.YtolikobhjmnedaaDoor.NatVal

abbrev BB : Int := 1000000000
theorem rd_last (l : List Int) (n : Nat) (h : l.length = n + 1) : l = l.take n ++ [rd l (n : Int)] := by
  rw [rd_eq l n (by omega), List.take_append_getElem (by omega), List.take_of_length_le (by omega)]
theorem trim_ev (n : Nat) : ∀ l : List Int, l.length = n → n ≤ 1000000000000000 → ok BB l →
    ∃ r, Ev (fun k => nat_N_trim.l0 k l) r ∧ val BB r = val BB l ∧ ok BB r ∧ noLead r ∧ r.length ≤ l.length := by
  induction n with
  | zero =>
    intro l hl _ ho
    obtain rfl : l = [] := List.eq_nil_of_length_eq_zero hl
    refine ⟨[], ?_, rfl, ok_nil _, noLead_nil, by simp⟩
    refine Ev.step (fun k => nat_N_trim.l0.eq_2 _ k) ?_
    exact Ev.no (by simp) (Ev.now _)
  | succ n ih =>
    intro l hl hn ho
    have e : wrap64 ((l.length : Int) - 1) = ((n : Nat) : Int) := by rw [w64] <;> omega
    have hd := rd_last l n hl
    by_cases hz : rd l (n : Int) = 0
    · have ho' : ok BB (l.take n) := fun x hx => ho x (List.mem_of_mem_take hx)
      obtain ⟨r, h1, h2, h3, h4, h5⟩ := ih (l.take n) (by simp; omega) (by omega) ho'
      refine ⟨r, ?_, ?_, h3, h4, by simp at h5; omega⟩
      · refine Ev.step (fun k => nat_N_trim.l0.eq_2 _ k) ?_
        rw [e]
        refine Ev.yes (by omega) (Ev.yes (by omega) (Ev.yes (by omega) (Ev.yes hz (Ev.yes (by omega) ?_))))
        rw [Int.toNat_natCast]
        exact h1
      · rw [h2]
        conv => rhs; rw [hd]
        rw [val_snoc, hz]; simp
    · refine ⟨l, ?_, rfl, ho, ?_, Nat.le_refl _⟩
      · refine Ev.step (fun k => nat_N_trim.l0.eq_2 _ k) ?_
        rw [e]
        exact Ev.yes (by omega) (Ev.yes (by omega) (Ev.yes (by omega) (Ev.no hz (Ev.now _))))
      · intro h
        have : l.getLast h = rd l (n : Int) := by
          rw [List.getLast_eq_getElem, rd_eq l n (by omega)]
          congr 1
          omega
        rw [this]; exact hz
theorem trimf_ev (l : List Int) (hn : l.length ≤ 1000000000000000) (ho : ok BB l) :
    ∃ r, Ev (fun k => nat_N_trim.f k l) r ∧ val BB r = val BB l ∧ ok BB r ∧ noLead r ∧ r.length ≤ l.length := trim_ev l.length l rfl hn ho

/-! ### Read -/
/-- a text's digits, the least one first -/
def digs (l : List Int) : List Int := (l.map fun c => c - 48).reverse
/-- bytes that are digits -/
def asc (l : List Int) : Prop := ∀ c ∈ l, 48 ≤ c ∧ c ≤ 57
theorem digs_length (l : List Int) : (digs l).length = l.length := by simp [digs]
theorem digs_ok {l : List Int} (h : asc l) : ok 10 (digs l) := by
  intro x hx
  simp only [digs, List.mem_reverse, List.mem_map] at hx
  obtain ⟨c, hc, rfl⟩ := hx
  have := h c hc
  omega
theorem digs_snoc (l : List Int) (c : Int) : digs (l ++ [c]) = (c - 48) :: digs l := by simp [digs]
theorem digs_append (l r : List Int) : digs (l ++ r) = digs r ++ digs l := by simp [digs]
theorem bytesOf_extract (s : ByteArray) (a b : Nat) : bytesOf (s.extract a b) = ((bytesOf s).drop a).take (b - a) := by
  have h := Go.Lib.extract_toList s a b
  rw [ByteArray.toList_eq] at h
  unfold bytesOf
  rw [h, List.map_take, List.map_drop]
theorem take_rd (l : List Int) (j : Nat) (h : j < l.length) : l.take (j + 1) = l.take j ++ [rd l (j : Int)] := by
  rw [rd_eq l j h, List.take_append_getElem h]
theorem read_l1 (s : ByteArray) (x3 : List Int) (x4 : Int) (ch : List Int) (hc : asc ch) (h9 : ch.length ≤ 9) (h3 : x3.length < 35184372088832) {r : List Int}
    (next : Ev (fun k => nat_Read.l0 k s (x3 ++ [val 10 (digs ch)]) (wrap64 (x4 - 9))) r) (d : Nat) :
    ∀ j, j + d = ch.length → Ev (fun k => nat_Read.l1 k s x3 x4 (val 10 (digs (ch.take j))) ch (ch.length : Int) (j : Int)) r := by
  induction d with
  | zero =>
    intro j hj
    refine Ev.step (fun k => nat_Read.l1.eq_2 _ _ _ _ _ _ _ k) ?_
    refine Ev.no (by omega) (Ev.yes h3 ?_)
    rw [show ch.take j = ch from List.take_of_length_le (by omega)]
    exact next
  | succ d ih =>
    intro j hj
    have hlt : j < ch.length := by omega
    refine Ev.step (fun k => nat_Read.l1.eq_2 _ _ _ _ _ _ _ k) ?_
    refine Ev.yes (by omega) (Ev.yes (by omega) (Ev.yes (by omega) ?_))
    have hd := hc _ (mem_rd ch j hlt)
    have ha : asc (ch.take j) := fun c hc' => hc c (List.mem_of_mem_take hc')
    have h0 := val_nonneg (by omega) (digs_ok ha)
    have h1 := val_lt (b := 10) (by omega) (digs_ok ha)
    rw [digs_length, List.length_take, Nat.min_eq_left (by omega)] at h1
    have h2 : (10 : Int) ^ j ≤ 10 ^ 8 := pow_mono (by omega) (by omega)
    have h2' : (10 : Int) ^ 8 = 100000000 := by decide
    have e : ((val 10 (digs (ch.take j)) * 10 + (rd ch (j : Int) - 48) % 256) % 4294967296) = val 10 (digs (ch.take (j + 1))) := by
      rw [take_rd ch j hlt, digs_snoc]
      simp only [val]
      omega
    rw [e, w64s (by omega)]
    exact ih (j + 1) (by omega)
theorem pow_BB (m : Nat) : BB ^ m = (10 : Int) ^ (9 * m) := by
  rw [Int.pow_mul]; rfl
/-- what a limb list says of a number -/
def Limbs (r : List Int) (v : Int) : Prop := val BB r = v ∧ ok BB r ∧ noLead r
theorem read_end (s : ByteArray) (x3 : List Int) (x4 : Int) (h4 : x4 ≤ 0) (hn : x3.length ≤ 1000000) (ho : ok BB x3) :
    ∃ r, Ev (fun k => nat_Read.l0 k s x3 x4) r ∧ Limbs r (val BB x3) ∧ r.length ≤ x3.length := by
  obtain ⟨r, h1, h2, h3, h5, h6⟩ := trimf_ev x3 (by omega) ho
  refine ⟨r, ?_, ⟨h2, h3, h5⟩, h6⟩
  refine Ev.step (fun k => nat_Read.l0.eq_2 _ _ _ k) ?_
  exact Ev.no (by omega) (Ev.bind1 h1 (Ev.now _))
theorem mx_eq (a b : Int) : mx a b = max a b := by unfold mx; omega
theorem read_l0 (s : ByteArray) (ha : asc (bytesOf s)) (hs : s.size ≤ 100000) (d : Nat) :
    ∀ (e m : Nat) (x3 : List Int), e ≤ d → e + 9 * m = s.size → x3.length = m → ok BB x3 → val BB x3 = val 10 (digs ((bytesOf s).drop e)) →
      ∃ r, Ev (fun k => nat_Read.l0 k s x3 (e : Int)) r ∧ Limbs r (val 10 (digs (bytesOf s))) ∧ r.length ≤ s.size := by
  induction d with
  | zero =>
    intro e m x3 he hm hx ho hv
    obtain rfl : e = 0 := by omega
    obtain ⟨r, h1, h2, h3⟩ := read_end s x3 0 (by omega) (by omega) ho
    rw [hv, List.drop_zero] at h2
    exact ⟨r, h1, h2, by omega⟩
  | succ d ih =>
    intro e m x3 he hm hx ho hv
    by_cases h0 : e = 0
    · exact ih e m x3 (by omega) hm hx ho hv
    · have hl := bytesOf_length s
      obtain ⟨a, hae⟩ : ∃ a : Nat, a = e - 9 := ⟨_, rfl⟩
      have hw : wrap64 ((e : Int) - 9) = (e : Int) - 9 := by rw [w64] <;> omega
      have hmx : mx 0 (wrap64 ((e : Int) - 9)) = (a : Int) := by rw [hw, mx_eq]; omega
      obtain ⟨ch, hch⟩ : ∃ ch, ch = bytesOf (s.extract a e) := ⟨_, rfl⟩
      have hch' : ch = ((bytesOf s).drop a).take (e - a) := by rw [hch, bytesOf_extract]
      have hcl : ch.length = e - a := by rw [hch', List.length_take, List.length_drop]; omega
      have hca : asc ch := by
        intro c hc
        rw [hch'] at hc
        exact ha c (List.mem_of_mem_drop (List.mem_of_mem_take hc))
      have hsplit : ch ++ (bytesOf s).drop e = (bytesOf s).drop a := by
        rw [hch']
        conv => rhs; rw [← List.take_append_drop (e - a) ((bytesOf s).drop a)]
        rw [List.drop_drop, show a + (e - a) = e by omega]
      have h00 := val_nonneg (by omega) (digs_ok hca)
      have h01 := val_lt (b := 10) (by omega) (digs_ok hca)
      rw [digs_length, hcl] at h01
      have h02 : (10 : Int) ^ (e - a) ≤ 10 ^ 9 := pow_mono (by omega) (by omega)
      have h03 : (10 : Int) ^ 9 = 1000000000 := by decide
      have ho' : ok BB (x3 ++ [val 10 (digs ch)]) := by
        rw [ok_append]
        refine ⟨ho, ?_⟩
        rw [ok_cons]
        exact ⟨⟨h00, by show _ < (1000000000 : Int); omega⟩, ok_nil _⟩
      have hv' : val BB (x3 ++ [val 10 (digs ch)]) = val 10 (digs ((bytesOf s).drop a)) := by
        rw [val_snoc, hv, hx, pow_BB, ← hsplit, digs_append, val_append, digs_length, List.length_drop, hl, show s.size - e = 9 * m by omega]
      have hstep : ∀ {r}, Ev (fun k => nat_Read.l0 k s (x3 ++ [val 10 (digs ch)]) (wrap64 ((e : Int) - 9))) r → Ev (fun k => nat_Read.l0 k s x3 (e : Int)) r := by
        intro r hr
        refine Ev.step (fun k => nat_Read.l0.eq_2 _ _ _ k) ?_
        rw [hmx]
        refine Ev.yes (by omega) (Ev.yes (by omega) (Ev.yes (by omega) (Ev.yes (by omega) ?_)))
        rw [Int.toNat_natCast, Int.toNat_natCast, ]
        have hsz : (s.extract a e).size ≤ 9223372036854775807 := by
          have := bytesOf_length (s.extract a e)
          rw [← hch, hcl] at this
          omega
        refine Ev.opt_bind (gp_bytes_ok _ hsz) ?_
        rw [← hch]
        have := read_l1 s x3 (e : Int) ch hca (by omega) (by omega) hr ch.length 0 (by omega)
        rw [List.take_zero] at this
        exact this
      by_cases h9 : e ≤ 9
      · obtain ⟨r, h1, h2, h3⟩ := read_end s (x3 ++ [val 10 (digs ch)]) (wrap64 ((e : Int) - 9)) (by rw [hw]; omega) (by simp; omega) ho'
        refine ⟨r, hstep h1, ?_, by simp at h3; omega⟩
        rw [hv', show a = 0 by omega, List.drop_zero] at h2
        exact h2
      · obtain ⟨r, h1, h2, h3⟩ := ih a (m + 1) (x3 ++ [val 10 (digs ch)]) (by omega) (by omega) (by simp; omega) ho' hv'
        refine ⟨r, hstep ?_, h2, h3⟩
        rw [hw, show (e : Int) - 9 = (a : Int) by omega]
        exact h1
theorem read_ev (s : ByteArray) (ha : asc (bytesOf s)) (hs : s.size ≤ 100000) :
    ∃ r, Ev (fun k => nat_Read.f k s) r ∧ Limbs r (val 10 (digs (bytesOf s))) ∧ r.length ≤ s.size := by
  refine read_l0 s ha hs s.size s.size 0 [] (by omega) (by omega) rfl (ok_nil _) ?_
  rw [List.drop_of_length_le (by rw [bytesOf_length]; omega)]
  rfl
end Go.Proofs.YtolikobhjmnedaaDoor.Pure
