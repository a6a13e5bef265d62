/- The reference's digit, strip, text over decimal digits. -/
import Derived.Test.YtolikobhjmnedaaDoorNatText
set_option linter.unusedSimpArgs false
set_option linter.unusedVariables false
namespace Go.Proofs.YtolikobhjmnedaaDoor.Pure
open Go.RowKit Go.Proofs.YtolikobhjmnedaaDoor.GNS Go.Proofs.YtolikobhjmnedaaDoorW.PrintWords Go.Proofs.YtolikobhjmnedaaDoorW.PrintLast Go.Proofs.YtolikobhjmnedaaDoor.Aid Go.Proofs.YtolikobhjmnedaaDoor.NatVal

theorem rd_digs (l : List Int) (k : Nat) (h : k < l.length) : rd (digs l) (k : Int) = rd l ((l.length - 1 - k : Nat) : Int) - 48 := by
  rw [rd_eq _ k (by rw [digs_length]; exact h), rd_eq _ _ (by omega)]
  unfold digs
  rw [List.getElem_reverse, List.getElem_map]
  simp
theorem rd_out (l : List Int) (k : Nat) (h : l.length ≤ k) : rd l (k : Int) = 0 := by
  unfold rd
  rw [Int.toNat_natCast, List.getD_eq_getElem?_getD, List.getElem?_eq_none h]
  rfl
theorem digit_eq (s : ByteArray) (ha : asc (bytesOf s)) (hs : s.size ≤ 1000000) (k : Nat) (hk : k ≤ 1000000000) : gamehallref2_digit.f s (k : Int) = some (rd (digs (bytesOf s)) (k : Int)) := by
  have hl := bytesOf_length s
  unfold gamehallref2_digit.f
  by_cases h : (k : Int) < (s.size : Int)
  · rw [if_pos h, w64 (i := (s.size : Int) - 1) (by omega) (by omega), w64 (by omega) (by omega), if_pos (by omega), if_pos (by omega), rd_digs _ _ (by omega), ← rd_bytesOf,
      show (s.size : Int) - 1 - (k : Int) = (((bytesOf s).length - 1 - k : Nat) : Int) by omega]
    have := ha _ (mem_rd (bytesOf s) ((bytesOf s).length - 1 - k) (by omega))
    congr 1
    omega
  · rw [if_neg h, rd_out _ _ (by rw [digs_length, hl]; omega)]
theorem strip_ev (n : Nat) : ∀ s : ByteArray, s.size = n + 1 → n ≤ 1000000000 → asc (bytesOf s) →
    ∃ t, Ev (fun k => gamehallref2_strip.l0 k s) t ∧ Canon t (val 10 (digs (bytesOf s))) ∧ t.size ≤ s.size := by
  induction n with
  | zero =>
    intro s hs _ ha
    refine ⟨s, ?_, ⟨ha, rfl, by omega, fun h => by omega⟩, Nat.le_refl _⟩
    refine Ev.step (fun k => gamehallref2_strip.l0.eq_2 _ k) ?_
    exact Ev.no (by omega) (Ev.now _)
  | succ n ih =>
    intro s hs hn ha
    have hl := bytesOf_length s
    have hd := drop_rd (bytesOf s) 0 (by omega)
    rw [List.drop_zero] at hd
    have hb : bt s 0 = rd (bytesOf s) 0 := (rd_bytesOf s 0).symm
    by_cases h48 : rd (bytesOf s) 0 = 48
    · have he : bytesOf (s.extract 1 s.size) = (bytesOf s).drop 1 := by
        rw [bytesOf_extract, List.take_of_length_le (by rw [List.length_drop, hl]; exact Nat.le_refl _)]
      have hsz : (s.extract 1 s.size).size = n + 1 := by
        have := bytesOf_length (s.extract 1 s.size)
        rw [he, List.length_drop, hl] at this
        omega
      have hval : val 10 (digs (bytesOf s)) = val 10 (digs (bytesOf (s.extract 1 s.size))) := by
        conv => lhs; rw [hd]
        rw [he, show ((0 : Nat) : Int) = 0 from rfl, h48, digs_cons, val_snoc]
        simp
      obtain ⟨t, q1, q2, q3⟩ := ih (s.extract 1 s.size) hsz (by omega) (by rw [he]; exact fun c hc => ha c (List.mem_of_mem_drop hc))
      refine ⟨t, ?_, by rw [hval]; exact q2, by omega⟩
      refine Ev.step (fun k => gamehallref2_strip.l0.eq_2 _ k) ?_
      exact Ev.yes (by omega) (Ev.yes (by omega) (Ev.yes (by rw [hb]; exact h48) (Ev.yes (by omega) q1)))
    · refine ⟨s, ?_, ⟨ha, rfl, by omega, fun _ => h48⟩, Nat.le_refl _⟩
      refine Ev.step (fun k => gamehallref2_strip.l0.eq_2 _ k) ?_
      exact Ev.yes (by omega) (Ev.yes (by omega) (Ev.no (by rw [hb]; exact h48) (Ev.now _)))
theorem stripf_ev (s : ByteArray) (h0 : 0 < s.size) (hn : s.size ≤ 1000000000) (ha : asc (bytesOf s)) :
    ∃ t, Ev (fun k => gamehallref2_strip.f k s) t ∧ Canon t (val 10 (digs (bytesOf s))) ∧ t.size ≤ s.size := strip_ev (s.size - 1) s (by omega) (by omega) ha
theorem bytesOf_append (a b : ByteArray) : bytesOf (a ++ b) = bytesOf a ++ bytesOf b := by
  unfold bytesOf
  rw [show (a ++ b).data = a.data ++ b.data from ByteArray.data_append, Array.toList_append, List.map_append]
theorem rtext_l0 (l : List Int) (hl : l.length ≤ 1000000) (ho : ok 10 l) (d : Nat) :
    ∀ (j : Nat) (x : List Int), j + d = l.length → x.length = l.length → asc (x.drop (l.length - j)) → digs (x.drop (l.length - j)) = l.take j →
      ∃ t, Ev (fun k => gamehallref2_text.l0 k l x l (l.length : Int) (j : Int)) t ∧ Canon t (val 10 l) ∧ t.size ≤ l.length + 1 := by
  induction d with
  | zero =>
    intro j x hj hx ha hd
    rw [show l.length - j = 0 by omega, List.drop_zero] at ha hd
    rw [show l.take j = l from List.take_of_length_le (by omega)] at hd
    have hb := bytesOf_strOfNums ha
    have hz : bytesOf (⟨#[48]⟩ : ByteArray) = [48] := by decide +kernel
    have hbb : bytesOf ((⟨#[48]⟩ : ByteArray) ++ strOfNums x) = 48 :: x := by rw [bytesOf_append, hz, hb]; rfl
    have hsz : ((⟨#[48]⟩ : ByteArray) ++ strOfNums x).size = l.length + 1 := by rw [← bytesOf_length, hbb, List.length_cons, hx]
    have hsz' : (strOfNums x).size = l.length := by rw [← bytesOf_length, hb, hx]
    obtain ⟨t, q1, q2, q3⟩ := stripf_ev ((⟨#[48]⟩ : ByteArray) ++ strOfNums x) (by omega) (by omega) (by rw [hbb]; exact asc_cons (by omega) ha)
    have hv : val 10 (digs (bytesOf ((⟨#[48]⟩ : ByteArray) ++ strOfNums x))) = val 10 l := by
      rw [hbb, digs_cons, hd, val_snoc]; simp
    rw [hv] at q2
    refine ⟨t, ?_, q2, by omega⟩
    refine Ev.step (fun k => gamehallref2_text.l0.eq_2 _ _ _ _ _ k) ?_
    exact Ev.no (by omega) (Ev.yes (by omega) (Ev.bind1 q1 (Ev.now _)))
  | succ d ih =>
    intro j x hj hx ha hd
    have hr := ok_rd ho j (by omega)
    obtain ⟨i, hi⟩ : ∃ i : Nat, i = l.length - 1 - j := ⟨_, rfl⟩
    have e1 : wrap64 (wrap64 ((l.length : Int) - 1) - (j : Int)) = (i : Int) := by rw [w64 (i := (l.length : Int) - 1) (by omega) (by omega), w64 (by omega) (by omega)]; omega
    have e2 : wrap64 (48 + rd l (j : Int)) % 256 = 48 + rd l (j : Int) := by rw [w64 (by omega) (by omega)]; omega
    have hdrop : (x.set i (48 + rd l (j : Int))).drop (l.length - (j + 1)) = (48 + rd l (j : Int)) :: x.drop (l.length - j) := by
      rw [show l.length - (j + 1) = i by omega, set_drop _ _ _ (by omega), show i + 1 = l.length - j by omega]
    obtain ⟨t, q1, q2, q3⟩ := ih (j + 1) (x.set i (48 + rd l (j : Int))) (by omega) (by simpa using hx)
      (by rw [hdrop]; exact asc_cons (by omega) ha) (by
        rw [hdrop, digs_cons, hd, take_rd l j (by omega)]
        congr 2
        omega)
    refine ⟨t, ?_, q2, q3⟩
    refine Ev.step (fun k => gamehallref2_text.l0.eq_2 _ _ _ _ _ k) ?_
    rw [e1, e2, w64s (by omega), Int.toNat_natCast]
    exact Ev.yes (by omega) (Ev.yes (by omega) (Ev.yes (by omega) (Ev.yes (by omega) (Ev.yes (by omega) q1))))
theorem rtext_ev (l : List Int) (hl : l.length ≤ 1000000) (ho : ok 10 l) : ∃ t, Ev (fun k => gamehallref2_text.f k l) t ∧ Canon t (val 10 l) ∧ t.size ≤ l.length + 1 := by
  obtain ⟨t, q1, q2, q3⟩ := rtext_l0 l hl ho l.length 0 (List.replicate l.length 0) (by omega) (by simp) (by
    rw [Nat.sub_zero, List.drop_of_length_le (by simp)]; exact fun c hc => by simp at hc) (by
    rw [Nat.sub_zero, List.drop_of_length_le (by simp)]; rfl)
  refine ⟨t, ?_, q2, q3⟩
  unfold gamehallref2_text.f
  exact Ev.yes (by omega) (Ev.yes (by omega) (by rw [Int.toNat_natCast]; exact q1))
end Go.Proofs.YtolikobhjmnedaaDoor.Pure
