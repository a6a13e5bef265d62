/- The reference's digit, strip, text over decimal digits. -/
import Derived.Test.YtolikobhjmnedaaDoorNatText
set_option linter.unusedSimpArgs false
set_option linter.unusedVariables false
namespace Go.Proofs.YtolikobhjmnedaaDoor.Pure
open Go.RowKit Go.Proofs.YtolikobhjmnedaaDoor.GN Go.Proofs.YtolikobhjmnedaaDoorW.PrintWords Go.Proofs.YtolikobhjmnedaaDoorW.PrintLast Go.Proofs.YtolikobhjmnedaaDoor.Aid Go.Proofs.YtolikobhjmnedaaDoor.NatVal

theorem rd_digs (l : List Int) (k : Nat) (h : k < l.length) : rd (digs l) (k : Int) = rd l ((l.length - 1 - k : Nat) : Int) - 48 := by
  rw [rd_eq _ k (by rw [digs_length]; exact h), rd_eq _ _ (by omega)]
  unfold digs
  rw [List.getElem_reverse, List.getElem_map]
  simp
theorem rd_out (l : List Int) (k : Nat) (h : l.length ≤ k) : rd l (k : Int) = 0 := by
  unfold rd
  rw [Int.toNat_natCast, List.getD_eq_getElem?_getD, List.getElem?_eq_none h]
  rfl
theorem digit_eq (s : ByteArray) (ha : asc (bytesOf s)) (hs : s.size ≤ 1000000) (k : Nat) (hk : k ≤ 1000000000) : gamehallref2_digit.f s (k : Int) = some (rd (digs (bytesOf s)) (k : Int)) := by
  have hl := bytesOf_length s
  unfold gamehallref2_digit.f
  by_cases h : (k : Int) < (s.size : Int)
  · rw [if_pos h, w64 (i := (s.size : Int) - 1) (by omega) (by omega), w64 (by omega) (by omega), if_pos (by omega), if_pos (by omega), rd_digs _ _ (by omega), ← rd_bytesOf,
      show (s.size : Int) - 1 - (k : Int) = (((bytesOf s).length - 1 - k : Nat) : Int) by omega]
    have := ha _ (mem_rd (bytesOf s) ((bytesOf s).length - 1 - k) (by omega))
    congr 1
    omega
  · rw [if_neg h, rd_out _ _ (by rw [digs_length, hl]; omega)]
theorem strip_ev (n : Nat) : ∀ s : ByteArray, s.size = n + 1 → n ≤ 1000000000 → asc (bytesOf s) →
    ∃ t, Ev (fun k => gamehallref2_strip.l0 k s) t ∧ Canon t (val 10 (digs (bytesOf s))) ∧ t.size ≤ s.size := by
  induction n with
  | zero =>
    intro s hs _ ha
    refine ⟨s, ?_, ⟨ha, rfl, by omega, fun h => by omega⟩, Nat.le_refl _⟩
    refine Ev.step (fun k => gamehallref2_strip.l0.eq_2 _ k) ?_
    exact Ev.no (by omega) (Ev.now _)
  | succ n ih =>
    intro s hs hn ha
    have hl := bytesOf_length s
    have hd := drop_rd (bytesOf s) 0 (by omega)
    rw [List.drop_zero] at hd
    have hb : bt s 0 = rd (bytesOf s) 0 := (rd_bytesOf s 0).symm
    by_cases h48 : rd (bytesOf s) 0 = 48
    · have he : bytesOf (s.extract 1 s.size) = (bytesOf s).drop 1 := by
        rw [bytesOf_extract, List.take_of_length_le (by rw [List.length_drop, hl]; exact Nat.le_refl _)]
      have hsz : (s.extract 1 s.size).size = n + 1 := by
        have := bytesOf_length (s.extract 1 s.size)
        rw [he, List.length_drop, hl] at this
        omega
      have hval : val 10 (digs (bytesOf s)) = val 10 (digs (bytesOf (s.extract 1 s.size))) := by
        conv => lhs; rw [hd]
        rw [he, show ((0 : Nat) : Int) = 0 from rfl, h48, digs_cons, val_snoc]
        simp
      obtain ⟨t, q1, q2, q3⟩ := ih (s.extract 1 s.size) hsz (by omega) (by rw [he]; exact fun c hc => ha c (List.mem_of_mem_drop hc))
      refine ⟨t, ?_, by rw [hval]; exact q2, by omega⟩
      refine Ev.step (fun k => gamehallref2_strip.l0.eq_2 _ k) ?_
      exact Ev.yes (by omega) (Ev.yes (by omega) (Ev.yes (by rw [hb]; exact h48) (Ev.yes (by omega) q1)))
    · refine ⟨s, ?_, ⟨ha, rfl, by omega, fun _ => h48⟩, Nat.le_refl _⟩
      refine Ev.step (fun k => gamehallref2_strip.l0.eq_2 _ k) ?_
      exact Ev.yes (by omega) (Ev.yes (by omega) (Ev.no (by rw [hb]; exact h48) (Ev.now _)))
theorem stripf_ev (s : ByteArray) (h0 : 0 < s.size) (hn : s.size ≤ 1000000000) (ha : asc (bytesOf s)) :
    ∃ t, Ev (fun k => gamehallref2_strip.f k s) t ∧ Canon t (val 10 (digs (bytesOf s))) ∧ t.size ≤ s.size := strip_ev (s.size - 1) s (by omega) (by omega) ha
theorem bytesOf_append (a b : ByteArray) : bytesOf (a ++ b) = bytesOf a ++ bytesOf b := by
  unfold bytesOf
  rw [show (a ++ b).data = a.data ++ b.data from ByteArray.data_append, Array.toList_append, List.map_append]
theorem rtext_l0 (l : List Int) (hl : l.length ≤ 1000000) (ho : ok 10 l) (d : Nat) :
    ∀ (j : Nat) (x : List Int), j + d = l.length → x.length = l.length → asc (x.drop (l.length - j)) → digs (x.drop (l.length - j)) = l.take j →
      ∃ t, Ev (fun k => gamehallref2_text.l0 k l x l (l.length : Int) (j : Int)) t ∧ Canon t (val 10 l) ∧ t.size ≤ l.length + 1 := by
  induction d with
  | zero =>
    intro j x hj hx ha hd
    rw [show l.length - j = 0 by omega, List.drop_zero] at ha hd
    rw [show l.take j = l from List.take_of_length_le (by omega)] at hd
    have hb := bytesOf_strOfNums ha
    have hz : bytesOf (⟨#[48]⟩ : ByteArray) = [48] := by decide +kernel
    have hbb : bytesOf ((⟨#[48]⟩ : ByteArray) ++ strOfNums x) = 48 :: x := by rw [bytesOf_append, hz, hb]; rfl
    have hsz : ((⟨#[48]⟩ : ByteArray) ++ strOfNums x).size = l.length + 1 := by rw [← bytesOf_length, hbb, List.length_cons, hx]
    have hsz' : (strOfNums x).size = l.length := by rw [← bytesOf_length, hb, hx]
    obtain ⟨t, q1, q2, q3⟩ := stripf_ev ((⟨#[48]⟩ : ByteArray) ++ strOfNums x) (by omega) (by omega) (by rw [hbb]; exact asc_cons (by omega) ha)
    have hv : val 10 (digs (bytesOf ((⟨#[48]⟩ : ByteArray) ++ strOfNums x))) = val 10 l := by
      rw [hbb, digs_cons, hd, val_snoc]; simp
    rw [hv] at q2
    refine ⟨t, ?_, q2, by omega⟩
    refine Ev.step (fun k => gamehallref2_text.l0.eq_2 _ _ _ _ _ k) ?_
    exact Ev.no (by omega) (Ev.yes (by omega) (Ev.bind1 q1 (Ev.now _)))
  | succ d ih =>
    intro j x hj hx ha hd
    have hr := ok_rd ho j (by omega)
    obtain ⟨i, hi⟩ : ∃ i : Nat, i = l.length - 1 - j := ⟨_, rfl⟩
    have e1 : wrap64 (wrap64 ((l.length : Int) - 1) - (j : Int)) = (i : Int) := by rw [w64 (i := (l.length : Int) - 1) (by omega) (by omega), w64 (by omega) (by omega)]; omega
    have e2 : wrap64 (48 + rd l (j : Int)) % 256 = 48 + rd l (j : Int) := by rw [w64 (by omega) (by omega)]; omega
    have hdrop : (x.set i (48 + rd l (j : Int))).drop (l.length - (j + 1)) = (48 + rd l (j : Int)) :: x.drop (l.length - j) := by
      rw [show l.length - (j + 1) = i by omega, set_drop _ _ _ (by omega), show i + 1 = l.length - j by omega]
    obtain ⟨t, q1, q2, q3⟩ := ih (j + 1) (x.set i (48 + rd l (j : Int))) (by omega) (by simpa using hx)
      (by rw [hdrop]; exact asc_cons (by omega) ha) (by
        rw [hdrop, digs_cons, hd, take_rd l j (by omega)]
        congr 2
        omega)
    refine ⟨t, ?_, q2, q3⟩
    refine Ev.step (fun k => gamehallref2_text.l0.eq_2 _ _ _ _ _ k) ?_
    rw [e1, e2, w64s (by omega), Int.toNat_natCast]
    exact Ev.yes (by omega) (Ev.yes (by omega) (Ev.yes (by omega) (Ev.yes (by omega) (Ev.yes (by omega) q1))))
theorem rtext_ev (l : List Int) (hl : l.length ≤ 1000000) (ho : ok 10 l) : ∃ t, Ev (fun k => gamehallref2_text.f k l) t ∧ Canon t (val 10 l) ∧ t.size ≤ l.length + 1 := by
  obtain ⟨t, q1, q2, q3⟩ := rtext_l0 l hl ho l.length 0 (List.replicate l.length 0) (by omega) (by simp) (by
    rw [Nat.sub_zero, List.drop_of_length_le (by simp)]; exact fun c hc => by simp at hc) (by
    rw [Nat.sub_zero, List.drop_of_length_le (by simp)]; rfl)
  refine ⟨t, ?_, q2, q3⟩
  unfold gamehallref2_text.f
  exact Ev.yes (by omega) (Ev.yes (by omega) (by rw [Int.toNat_natCast]; exact q1))
/-! ### NatRefAdd -/

theorem val_take' {b : Int} (l : List Int) (j : Nat) : val b (l.take (j + 1)) = val b (l.take j) + b ^ j * rd l (j : Int) := by
  by_cases h : j < l.length
  · exact val_take l j h
  · rw [take_len_val l j (by omega), rd_out l j (by omega)]; simp
theorem ok_rd' {b : Int} {l : List Int} (hb : 0 < b) (h : ok b l) (j : Nat) : 0 ≤ rd l (j : Int) ∧ rd l (j : Int) < b := by
  by_cases hj : j < l.length
  · exact ok_rd h j hj
  · rw [rd_out l j (by omega)]; omega
theorem radd_l0 (a b : ByteArray) (ha : asc (bytesOf a)) (hb : asc (bytesOf b)) (hsa : a.size ≤ 100000) (hsb : b.size ≤ 100000) (d : Nat) :
    ∀ (j : Nat) (out : List Int) (c : Int), j + d = max a.size b.size + 1 → out.length = j → ok 10 out → 0 ≤ c → c ≤ 1 → (d = 0 → c = 0) →
      val 10 out + 10 ^ j * c = val 10 ((digs (bytesOf a)).take j) + val 10 ((digs (bytesOf b)).take j) →
      ∃ t, Ev (fun k => gamehallref2_NatAdd.l0 k a b out c (j : Int)) t ∧ Canon t (val 10 (digs (bytesOf a)) + val 10 (digs (bytesOf b))) ∧ t.size ≤ 100010 := by
  have la : (digs (bytesOf a)).length = a.size := by rw [digs_length, bytesOf_length]
  have lb : (digs (bytesOf b)).length = b.size := by rw [digs_length, bytesOf_length]
  have fin : ∀ (j : Nat) (out : List Int), a.size ≤ j → b.size ≤ j → j ≤ 100001 → out.length = j → ok 10 out → val 10 out + 10 ^ j * 0 = val 10 ((digs (bytesOf a)).take j) + val 10 ((digs (bytesOf b)).take j) →
      ∃ t, Ev (fun k => gamehallref2_NatAdd.l0 k a b out 0 (j : Int)) t ∧ Canon t (val 10 (digs (bytesOf a)) + val 10 (digs (bytesOf b))) ∧ t.size ≤ 100010 := by
    intro j out h1 h2 h3 ho hok hv
    rw [List.take_of_length_le (by omega), List.take_of_length_le (by omega), Int.mul_zero, Int.add_zero] at hv
    obtain ⟨t, q1, q2, q3⟩ := rtext_ev out (by omega) hok
    rw [hv] at q2
    refine ⟨t, ?_, q2, by omega⟩
    refine Ev.step (fun k => gamehallref2_NatAdd.l0.eq_2 _ _ _ _ _ k) ?_
    refine Ev.no (by omega) (Ev.no (by omega) ?_)
    refine Ev.step (fun k => gamehallref2_NatAdd.j1.eq_2 _ _ _ _ _ _ k) ?_
    exact Ev.no (by simp) (Ev.bind1 q1 (Ev.now _))
  induction d with
  | zero =>
    intro j out c hj ho hok hc0 hc1 hz hv
    obtain rfl := hz rfl
    exact fin j out (by omega) (by omega) (by omega) ho hok hv
  | succ d ih =>
    intro j out c hj ho hok hc0 hc1 hz hv
    have hx := ok_rd' (b := 10) (by decide) (digs_ok ha) j
    have hy := ok_rd' (b := 10) (by decide) (digs_ok hb) j
    obtain ⟨x, hxe⟩ : ∃ x, x = rd (digs (bytesOf a)) (j : Int) := ⟨_, rfl⟩
    obtain ⟨y, hye⟩ : ∃ y, y = rd (digs (bytesOf b)) (j : Int) := ⟨_, rfl⟩
    rw [← hxe] at hx
    rw [← hye] at hy
    have onward : ∃ t, Ev (fun k => gamehallref2_NatAdd.j1 k a b out c (j : Int) true) t ∧ Canon t (val 10 (digs (bytesOf a)) + val 10 (digs (bytesOf b))) ∧ t.size ≤ 100010 := by
      have e1 : Int.tmod (wrap64 (wrap64 (x + y) + c)) 10 = (x + y + c) % 10 := by
        rw [w64 (i := x + y) (by omega) (by omega), w64 (by omega) (by omega), Int.tmod_eq_emod_of_nonneg (by omega)]
      have e2 : wrap64 (Int.tdiv (wrap64 (wrap64 (x + y) + c)) 10) = (x + y + c) / 10 := by
        rw [w64 (i := x + y) (by omega) (by omega), w64 (i := x + y + c) (by omega) (by omega), Int.tdiv_eq_ediv_of_nonneg (by omega), w64 (by omega) (by omega)]
      obtain ⟨t, q1, q2, q3⟩ := ih (j + 1) (out ++ [(x + y + c) % 10]) ((x + y + c) / 10) (by omega) (by simp; omega) (by
          rw [ok_append, ok_cons]; exact ⟨hok, ⟨by omega, by omega⟩, ok_nil _⟩) (by omega) (by omega) (by
          intro hd0
          have : x = 0 := by rw [hxe, rd_out _ _ (by omega)]
          have : y = 0 := by rw [hye, rd_out _ _ (by omega)]
          omega) (by
          rw [val_snoc, ho, val_take', val_take', ← hxe, ← hye, Int.pow_succ, Int.mul_assoc, Int.add_assoc, ← Int.mul_add, show (x + y + c) % 10 + 10 * ((x + y + c) / 10) = x + y + c by omega, Int.mul_add, Int.mul_add]
          omega)
      refine ⟨t, ?_, q2, q3⟩
      refine Ev.step (fun k => gamehallref2_NatAdd.j1.eq_2 _ _ _ _ _ _ k) ?_
      refine Ev.yes rfl (Ev.opt_bind (digit_eq a ha (by omega) j (by omega)) (Ev.opt_bind (digit_eq b hb (by omega) j (by omega)) (Ev.yes (by omega) ?_)))
      rw [← hxe, ← hye, e1, e2, w64s (by omega)]
      exact q1
    by_cases h1 : (j : Int) < (a.size : Int)
    · obtain ⟨t, q1, q2⟩ := onward
      refine ⟨t, ?_, q2⟩
      refine Ev.step (fun k => gamehallref2_NatAdd.l0.eq_2 _ _ _ _ _ k) ?_
      exact Ev.yes h1 q1
    · by_cases h2 : (j : Int) < (b.size : Int)
      · obtain ⟨t, q1, q2⟩ := onward
        refine ⟨t, ?_, q2⟩
        refine Ev.step (fun k => gamehallref2_NatAdd.l0.eq_2 _ _ _ _ _ k) ?_
        exact Ev.no h1 (Ev.yes h2 q1)
      · by_cases hc : c > 0
        · obtain ⟨t, q1, q2⟩ := onward
          refine ⟨t, ?_, q2⟩
          refine Ev.step (fun k => gamehallref2_NatAdd.l0.eq_2 _ _ _ _ _ k) ?_
          refine Ev.no h1 (Ev.no h2 ?_)
          rw [show decide (c > 0) = true by simpa using hc]
          exact q1
        · obtain rfl : c = 0 := by omega
          exact fin j out (by omega) (by omega) (by omega) ho hok hv
theorem radd_ev {a b : ByteArray} {u v : Int} (ha : Canon a u) (hb : Canon b v) (hsa : a.size ≤ 100000) (hsb : b.size ≤ 100000) :
    ∃ t, Ev (fun k => gamehallref2_NatAdd.f k a b) t ∧ Canon t (u + v) ∧ t.size ≤ 100010 := by
  obtain ⟨t, q1, q2, q3⟩ := radd_l0 a b ha.1 hb.1 hsa hsb (max a.size b.size + 1) 0 [] 0 (by omega) rfl (ok_nil _) (by omega) (by omega) (fun _ => rfl) (by simp [val])
  rw [ha.2.1, hb.2.1] at q2
  exact ⟨t, q1, q2, q3⟩
/-! ### NatRefSub -/

theorem rsub_l0 (a b : ByteArray) (ha : asc (bytesOf a)) (hb : asc (bytesOf b)) (hsa : a.size ≤ 100000) (hle : b.size ≤ a.size) (hge : val 10 (digs (bytesOf b)) ≤ val 10 (digs (bytesOf a))) (d : Nat) :
    ∀ (j : Nat) (out : List Int) (c : Int), j + d = a.size → out.length = j → ok 10 out → 0 ≤ c → c ≤ 1 →
      val 10 out - 10 ^ j * c = val 10 ((digs (bytesOf a)).take j) - val 10 ((digs (bytesOf b)).take j) →
      ∃ t, Ev (fun k => gamehallref2_NatSub.l0 k a b out c (a.size : Int) (j : Int)) t ∧ Canon t (val 10 (digs (bytesOf a)) - val 10 (digs (bytesOf b))) ∧ t.size ≤ 100010 := by
  have la : (digs (bytesOf a)).length = a.size := by rw [digs_length, bytesOf_length]
  have lb : (digs (bytesOf b)).length = b.size := by rw [digs_length, bytesOf_length]
  induction d with
  | zero =>
    intro j out c hj ho hok hc0 hc1 hv
    rw [List.take_of_length_le (by omega), List.take_of_length_le (by omega)] at hv
    have hlt := val_lt (b := 10) (by decide) hok
    rw [ho] at hlt
    have hc : c = 0 := by
      by_cases h : c = 0
      · exact h
      · rw [show c = 1 by omega, Int.mul_one] at hv
        omega
    rw [hc, Int.mul_zero, Int.sub_zero] at hv
    obtain ⟨t, q1, q2, q3⟩ := rtext_ev out (by omega) hok
    rw [hv] at q2
    refine ⟨t, ?_, q2, by omega⟩
    refine Ev.step (fun k => gamehallref2_NatSub.l0.eq_2 _ _ _ _ _ _ k) ?_
    exact Ev.no (by omega) (Ev.bind1 q1 (Ev.now _))
  | succ d ih =>
    intro j out c hj ho hok hc0 hc1 hv
    have hx := ok_rd' (b := 10) (by decide) (digs_ok ha) j
    have hy := ok_rd' (b := 10) (by decide) (digs_ok hb) j
    obtain ⟨x, hxe⟩ : ∃ x, x = rd (digs (bytesOf a)) (j : Int) := ⟨_, rfl⟩
    obtain ⟨y, hye⟩ : ∃ y, y = rd (digs (bytesOf b)) (j : Int) := ⟨_, rfl⟩
    rw [← hxe] at hx
    rw [← hye] at hy
    have e1 : wrap64 (wrap64 (x - y) - c) = x - y - c := by rw [w64 (i := x - y) (by omega) (by omega), w64 (by omega) (by omega)]
    have e2 : wrap64 (x - y - c + 10) = x - y - c + 10 := w64 (by omega) (by omega)
    have go : ∀ v c' : Int, 0 ≤ v → v < 10 → 0 ≤ c' → c' ≤ 1 → v - 10 * c' = x - y - c →
        ∃ t, Ev (fun k => gamehallref2_NatSub.l0 k a b (out ++ [v]) c' (a.size : Int) (wrap64 ((j : Int) + 1))) t ∧ Canon t (val 10 (digs (bytesOf a)) - val 10 (digs (bytesOf b))) ∧ t.size ≤ 100010 := by
      intro v c' hv0 hv1 hc'0 hc'1 hvc
      rw [w64s (by omega)]
      refine ih (j + 1) _ _ (by omega) (by simp; omega) (by rw [ok_append, ok_cons]; exact ⟨hok, ⟨hv0, hv1⟩, ok_nil _⟩) hc'0 hc'1 ?_
      have h1 : (10 : Int) ^ j * (v - 10 * c') = 10 ^ j * (x - y - c) := by rw [hvc]
      rw [val_snoc, ho, val_take', val_take', ← hxe, ← hye, Int.pow_succ, Int.mul_assoc]
      rw [Int.mul_sub, Int.mul_sub, Int.mul_sub] at h1
      omega
    by_cases hneg : x - y - c < 0
    · obtain ⟨t, q1, q2, q3⟩ := go (x - y - c + 10) 1 (by omega) (by omega) (by omega) (by omega) (by omega)
      refine ⟨t, ?_, q2, q3⟩
      refine Ev.step (fun k => gamehallref2_NatSub.l0.eq_2 _ _ _ _ _ _ k) ?_
      refine Ev.yes (by omega) (Ev.opt_bind (digit_eq a ha (by omega) j (by omega)) (Ev.opt_bind (digit_eq b hb (by omega) j (by omega)) ?_))
      rw [← hxe, ← hye, e1, e2]
      exact Ev.yes hneg (Ev.yes (by omega) q1)
    · obtain ⟨t, q1, q2, q3⟩ := go (x - y - c) 0 (by omega) (by omega) (by omega) (by omega) (by omega)
      refine ⟨t, ?_, q2, q3⟩
      refine Ev.step (fun k => gamehallref2_NatSub.l0.eq_2 _ _ _ _ _ _ k) ?_
      refine Ev.yes (by omega) (Ev.opt_bind (digit_eq a ha (by omega) j (by omega)) (Ev.opt_bind (digit_eq b hb (by omega) j (by omega)) ?_))
      rw [← hxe, ← hye, e1]
      exact Ev.no hneg (Ev.yes (by omega) q1)
theorem canon_len {a b : ByteArray} {u v : Int} (ha : Canon a u) (hb : Canon b v) (h : a.size < b.size) : u < v := by
  obtain ⟨h1, h2, h3, h4⟩ := ha
  have g1 := val_lt (b := 10) (by decide) (digs_ok h1)
  rw [digs_length, bytesOf_length, h2] at g1
  have hbs : 1 < b.size := by omega
  have hne : digs (bytesOf b) ≠ [] := fun z => by
    have := congrArg List.length z
    rw [digs_length, bytesOf_length, List.length_nil] at this
    omega
  have g2 := val_ge (b := 10) (by decide) (digs_ok hb.1) (digs_noLead (hb.2.2.2 hbs)) hne
  rw [digs_length, bytesOf_length, hb.2.1] at g2
  have g3 : (10 : Int) ^ a.size ≤ 10 ^ (b.size - 1) := pow_mono (by decide) (by omega)
  omega
theorem rsub_ev {a b : ByteArray} {u v : Int} (ha : Canon a u) (hb : Canon b v) (hsa : a.size ≤ 100000) (hge : v ≤ u) :
    ∃ t, Ev (fun k => gamehallref2_NatSub.f k a b) t ∧ Canon t (u - v) ∧ t.size ≤ 100010 := by
  have hle : b.size ≤ a.size := by
    by_cases h : b.size ≤ a.size
    · exact h
    · have := canon_len ha hb (by omega); omega
  obtain ⟨t, q1, q2, q3⟩ := rsub_l0 a b ha.1 hb.1 hsa hle (by rw [ha.2.1, hb.2.1]; exact hge) a.size 0 [] 0 (by omega) rfl (ok_nil _) (by omega) (by omega) (by simp [val])
  rw [ha.2.1, hb.2.1] at q2
  exact ⟨t, q1, q2, q3⟩
/-! ### NatRefCmp -/

def nums (l : List UInt8) : List Int := l.map fun b => (b.toNat : Int)
theorem bytesOf_nums (s : ByteArray) : bytesOf s = nums s.toList := by rw [ByteArray.toList_eq]; rfl
theorem less_val : ∀ x y : List UInt8, x.length = y.length → asc (nums x) → asc (nums y) → Op.bytesLess x y = decide (val 10 (digs (nums x)) < val 10 (digs (nums y)))
  | [], [], _, _, _ => by simp [Op.bytesLess]
  | [], _ :: _, h, _, _ => by simp at h
  | _ :: _, [], h, _, _ => by simp at h
  | c :: x, e :: y, h, hx, hy => by
    have hx' : asc (nums x) := fun z hz => hx z (List.mem_cons_of_mem _ hz)
    have hy' : asc (nums y) := fun z hz => hy z (List.mem_cons_of_mem _ hz)
    have hl : x.length = y.length := by simpa using h
    have ih := less_val x y hl hx' hy'
    have a1 := val_lt (b := 10) (by decide) (digs_ok hx')
    have a2 := val_lt (b := 10) (by decide) (digs_ok hy')
    have b1 := val_nonneg (b := 10) (by decide) (digs_ok hx')
    have b2 := val_nonneg (b := 10) (by decide) (digs_ok hy')
    have lx : (digs (nums x)).length = y.length := by rw [digs_length, nums, List.length_map, hl]
    have ly : (digs (nums y)).length = y.length := by rw [digs_length, nums, List.length_map]
    rw [lx] at a1
    rw [ly] at a2
    have ex : val 10 (digs (nums (c :: x))) = val 10 (digs (nums x)) + 10 ^ y.length * ((c.toNat : Int) - 48) := by
      show val 10 (digs ((c.toNat : Int) :: nums x)) = _
      rw [digs_cons, val_snoc, lx]
    have ey : val 10 (digs (nums (e :: y))) = val 10 (digs (nums y)) + 10 ^ y.length * ((e.toNat : Int) - 48) := by
      show val 10 (digs ((e.toNat : Int) :: nums y)) = _
      rw [digs_cons, val_snoc, ly]
    rw [ex, ey, Op.bytesLess, ih]
    have hp : (0 : Int) < 10 ^ y.length := Int.pow_pos (by decide)
    by_cases h1 : c.toNat < e.toNat
    · have hm : (10 : Int) ^ y.length * (((c.toNat : Int) - 48) + 1) ≤ 10 ^ y.length * ((e.toNat : Int) - 48) := Int.mul_le_mul_of_nonneg_left (by omega) (by omega)
      rw [Int.mul_add, Int.mul_one] at hm
      have hlt : c < e := UInt8.lt_iff_toNat_lt.2 h1
      simp [hlt]; omega
    · by_cases h2 : c.toNat = e.toNat
      · have : c = e := UInt8.toNat_inj.1 h2
        subst this
        simp
      · have hm : (10 : Int) ^ y.length * (((e.toNat : Int) - 48) + 1) ≤ 10 ^ y.length * ((c.toNat : Int) - 48) := Int.mul_le_mul_of_nonneg_left (by omega) (by omega)
        rw [Int.mul_add, Int.mul_one] at hm
        have hlt : ¬ c < e := fun z => h1 (UInt8.lt_iff_toNat_lt.1 z)
        have hne : ¬ c = e := fun z => h2 (by rw [z])
        have hr : ¬ (val 10 (digs (nums x)) + 10 ^ y.length * ((c.toNat : Int) - 48) < val 10 (digs (nums y)) + 10 ^ y.length * ((e.toNat : Int) - 48)) := by omega
        have hbe : (c == e) = false := by simpa using hne
        rw [hbe]
        simp only [Bool.false_and, Bool.or_false]
        exact (decide_eq_decide.2 ⟨fun z => absurd z hlt, fun z => absurd z hr⟩)
theorem rcmp_eq {a b : ByteArray} {u v : Int} (ha : Canon a u) (hb : Canon b v) : gamehallref2_NatCmp.f a b = some (cmpI u v) := by
  unfold gamehallref2_NatCmp.f
  by_cases h1 : (a.size : Int) < (b.size : Int)
  · rw [if_pos h1, cmpI, if_pos (canon_len ha hb (by omega))]
  · rw [if_neg h1]
    by_cases h2 : (a.size : Int) > (b.size : Int)
    · have := canon_len hb ha (by omega)
      rw [if_pos h2, cmpI, if_neg (by omega), if_pos (by omega)]
    · rw [if_neg h2]
      have hlen : a.toList.length = b.toList.length := by rw [ByteArray.toList_eq, ByteArray.toList_eq, data_length, data_length]; omega
      have ea : val 10 (digs (nums a.toList)) = u := by rw [← bytesOf_nums]; exact ha.2.1
      have eb : val 10 (digs (nums b.toList)) = v := by rw [← bytesOf_nums]; exact hb.2.1
      have hl := less_val a.toList b.toList hlen (by rw [← bytesOf_nums]; exact ha.1) (by rw [← bytesOf_nums]; exact hb.1)
      rw [ea, eb] at hl
      rw [hl]
      by_cases h3 : u < v
      · rw [if_pos (by simpa using h3), cmpI, if_pos h3]
      · rw [if_neg (by simpa using h3), cmpI, if_neg h3]
        by_cases h4 : u = v
        · subst h4
          have := canon_inj ha hb
          rw [if_pos (by simp [this]), if_neg (by omega)]
        · have hne : ¬ a.toList = b.toList := fun z => h4 (by rw [← ea, ← eb, z])
          rw [if_neg (by simp [h3, hne]), if_pos (by omega)]
end Go.Proofs.YtolikobhjmnedaaDoor.Pure
