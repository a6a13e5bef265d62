/- Texts of this session, put together. -/
import Derived.Test.YtnjbabkfdcdkbaaGreatDoorRS5
section
/- Vectors and matrices of rational numbers: the contracts hold. -/
set_option linter.unusedVariables false
set_option linter.unusedSimpArgs false
namespace Go.Proofs.YtnjbabkfdcdkbaaGreatDoor.Lib
open Go Go.Proofs.YtnjbabkfdcdkbaaGreatDoor.Mach Go.Proofs.YtnjbabkfdcdkbaaGreatDoorW.PrintWords Go.Proofs.YtnjbabkfdcdkbaaGreatDoor.Sem Go.Proofs.YtnjbabkfdcdkbaaGreatDoor.Pure
theorem roomN {n b : Nat} (h : n ≤ 1000000000001) (hb : b ≤ 100) : (bif n.ble 9223372036854775807 then (n * b).ble 140737488355328 else false) = true := by
  rw [(ble_iff _ _).2 (show n ≤ 9223372036854775807 by omega)]
  exact (ble_iff _ _).2 (Nat.le_trans (Nat.mul_le_mul h hb) (by decide))
theorem len_snoc {α : Type} {l : List α} {a : α} {n m : Nat} (h : l.length = n) (hn : n + 1 ≤ m) : l.length + [a].length ≤ m := by
  rw [h]; exact hn
theorem getD_snoc {α : Type} {l : List α} {a d : α} {i : Nat} : (l ++ [a]).getD i d = if i < l.length then l.getD i d else if i = l.length then a else d := by
  rw [List.getD_eq_getElem?_getD, List.getD_eq_getElem?_getD]
  by_cases h : i < l.length
  · rw [if_pos h, List.getElem?_append_left h]
  · rw [if_neg h, List.getElem?_append_right (by omega)]
    by_cases h1 : i = l.length
    · rw [if_pos h1, h1]; simp
    · rw [if_neg h1, List.getElem?_eq_none (by simp; omega)]; rfl
theorem QF.nil (f : Nat → Rat) : QF [] 0 f := ⟨rfl, fun i hi => absurd hi (Nat.not_lt_zero _)⟩
theorem QF.push {zs : List QT} {n : Nat} {f : Nat → Rat} {z : QT} (h : QF zs n f) (hz : QV z (f n)) : QF (zs ++ [z]) (n + 1) f :=
  ⟨by rw [List.length_append, h.len]; rfl, fun i hi => by
    rw [getD_snoc, h.len]
    by_cases h1 : i < n
    · rw [if_pos h1]; exact h.at_ i h1
    · rw [if_neg h1, if_pos (by omega)]
      rw [show i = n by omega]; exact hz⟩
theorem GF.nil (w : Nat) (f : Nat → Nat → Rat) : GF [] 0 w f := ⟨rfl, fun i hi => absurd hi (Nat.not_lt_zero _)⟩
theorem GF.push {g : List (List QT)} {n w : Nat} {f : Nat → Nat → Rat} {z : List QT} (h : GF g n w f) (hz : QF z w (f n)) : GF (g ++ [z]) (n + 1) w f :=
  ⟨by rw [List.length_append, h.len]; rfl, fun i hi => by
    rw [getD_snoc, h.len]
    by_cases h1 : i < n
    · rw [if_pos h1]; exact h.at_ i h1
    · rw [if_neg h1, if_pos (by omega)]
      rw [show i = n by omega]; exact hz⟩
theorem szS_add {a b : Nat} {x y : Rat} (sx : Sz a x) (sy : Sz b y) : Sz (a + b + 1) (x + y) := by
  have e1 := sz_n sx; have e2 := sz_d sx; have e3 := sz_n sy; have e4 := sz_d sy
  have m1 : dg (x.num.natAbs * y.den) ≤ a + b := Nat.le_trans (dg_mul _ _) (by omega)
  have m2 : dg (y.num.natAbs * x.den) ≤ a + b := Nat.le_trans (dg_mul _ _) (by omega)
  have m3 : dg (x.den * y.den) ≤ a + b := Nat.le_trans (dg_mul _ _) (by omega)
  have px := den_pos x
  have py := den_pos y
  have hsum : x + y = mkq (decide (x.num < 0)) x.num.natAbs x.den + mkq (decide (y.num < 0)) y.num.natAbs y.den := by rw [mkq_self, mkq_self]
  rw [mkq_add _ _ _ _ _ _ px py] at hsum
  have hD : ∀ c u, szD (mkq c u (x.den * y.den)) ≤ a + b + 1 := fun c u => Nat.le_trans (szD_mkq (Nat.mul_pos px py)) (by omega)
  have hN : ∀ c u, dg u ≤ a + b + 1 → szN (mkq c u (x.den * y.den)) ≤ a + b + 1 := fun c u h => Nat.le_trans (szN_mkq (Nat.mul_pos px py)) h
  have a1 := dg_add m1 m2
  have a2 := dg_mono (Nat.sub_le (x.num.natAbs * y.den) (y.num.natAbs * x.den))
  have a3 := dg_mono (Nat.sub_le (y.num.natAbs * x.den) (x.num.natAbs * y.den))
  rw [hsum]
  split
  · exact ⟨hN _ _ (by omega), hD _ _⟩
  · split
    · exact ⟨hN _ _ (by omega), hD _ _⟩
    · exact ⟨hN _ _ (by omega), hD _ _⟩
theorem szS_sub {a b : Nat} {x y : Rat} (sx : Sz a x) (sy : Sz b y) : Sz (a + b + 1) (x - y) := by
  rw [Rat.sub_eq_add_neg]
  exact szS_add sx (sz_neg sy)
theorem sz_int (n : Int) (h : n.natAbs < 10 ^ 20) : Sz 20 (n : Rat) := ⟨dg_word h, by show dg (n : Rat).den ≤ 20; rw [Rat.den_intCast, dg_one]; decide⟩
def tailTo (f : Nat → Rat) (n : Nat) : Nat → Rat
  | 0 => 0
  | d + 1 => f (n - 1 - d) + tailTo f n d
theorem tail_sum (f : Nat → Rat) (n : Nat) : ∀ d, d ≤ n → sumTo f (n - d) + tailTo f n d = sumTo f n
  | 0, _ => by show sumTo f n + 0 = _; exact Rat.add_zero _
  | d + 1, h => by
    have ih := tail_sum f n d (by omega)
    have e : n - d = (n - (d + 1)) + 1 := by omega
    have e2 : n - 1 - d = n - (d + 1) := by omega
    rw [← ih, e]
    show sumTo f (n - (d + 1)) + (f (n - 1 - d) + tailTo f n d) = sumTo f (n - (d + 1)) + f (n - (d + 1)) + tailTo f n d
    rw [e2, Rat.add_assoc]
theorem sz_tail {f : Nat → Rat} {n s : Nat} (h : SzF s n f) : ∀ d, d ≤ n → Sz (d * (s + 1) + 1) (tailTo f n d)
  | 0, _ => (sz_zero.mono (by omega))
  | d + 1, hd => by
    have := szS_add (h (n - 1 - d) (by omega)) (sz_tail h d (by omega))
    refine this.mono ?_
    rw [Nat.add_mul]; omega
theorem sz_sum {f : Nat → Rat} {n s : Nat} (h : SzF s n f) : ∀ d, d ≤ n → Sz (d * (s + 1) + 1) (sumTo f d)
  | 0, _ => (sz_zero.mono (by omega))
  | d + 1, hd => by
    have := szS_add (sz_sum h d (by omega)) (h d (by omega))
    refine this.mono ?_
    rw [Nat.add_mul]; omega
section
variable {v a b : List ByteArray} {m : List (List ByteArray)} {Q : Res}
theorem find_dropK {k : Nat} {l : List ByteArray} {x : Nat} (hx : x < l.length) : (l.drop x).findIdx? (fun s => decide (k < s.size)) = if decide (k < (l.getD x ByteArray.empty).size) = true then some 0 else ((l.drop (x + 1)).findIdx? fun s => decide (k < s.size)).map (· + 1) := by
  rw [drop_at hx, List.findIdx?_cons]
theorem vlong_con {l : List ByteArray} (h : long12S l () Q) : Con Tryz.prog 65 [.imm eS l, .fn 34 []] Q := by
  obtain ⟨hl, hq⟩ := h
  refine conN (gn := fnT Tryz.f65) (by kernel_rfl) con0_ok (inl := [34]) (LT := vlong_live) (NT := vlong_nils) rfl fun n0 => ?_
  rw [vlong_E]
  refine loopN (f := 65) (gn := fnT Tryz.f65) (n0 := n0) (r := 2) (by kernel_rfl) con0_ok (inl := [34]) (LT := vlong_live) (NT := vlong_nils) (K := resK Q) (fun x : Nat => vlong_s2_0 l (l.length : Int) (x : Int)) (fun x => l.length - x) (fun x => x ≤ l.length ∧ l.findIdx? (fun s => decide (12 < s.size)) = ((l.drop x).findIdx? fun s => decide (12 < s.size)).map (· + x)) (fun x hp ih => ?_) 0 ⟨Nat.zero_le _, by rw [List.drop_zero]; cases l.findIdx? (fun s => decide (12 < s.size)) <;> rfl⟩
  obtain ⟨hp, he⟩ := hp
  rw [vlong_s2_0_E]
  unfold longI at hq
  by_cases hx : x < l.length
  · refine bif_pos (by omega) (bif_and (bif_pos (by omega) (bif_pos (by omega) ?_)))
    rw [Int.toNat_natCast, wrS hx (by omega)]
    rw [find_dropK hx] at he
    by_cases hc : 12 < (l.getD x ByteArray.empty).size
    · rw [if_pos (decide_eq_true hc)] at he
      rw [he] at hq
      refine bif_pos (by omega) (res_int ?_)
      simpa using hq
    · rw [if_neg (by simpa using hc)] at he
      refine bif_neg (by omega) (ih (x + 1) ⟨by omega, ?_⟩ (by omega))
      rw [he]
      cases (l.drop (x + 1)).findIdx? (fun s => decide (12 < s.size)) with
      | none => rfl
      | some i => simp; omega
  · rw [List.drop_eq_nil_of_le (by omega)] at he
    rw [he] at hq
    exact bif_neg (by omega) (res_int hq)
theorem conM1_ok : ∀ g xs Q, conM1 g xs Q → Con Tryz.prog g xs Q := table_ok fun p hp => by
  simp only [List.mem_cons, List.not_mem_nil, or_false] at hp
  rcases hp with rfl | rfl | rfl | rfl | rfl | rfl | rfl
  · exact c1_ok fun _ _ h => rchecks_con h
  · exact c1_ok fun _ _ h => in_con h
  · exact c1_ok fun _ _ h => fits_con h
  · exact c1_ok fun _ _ h => out_con h
  · exact c1_ok fun _ _ h => xerrs_con h
  · exact c2_ok fun _ _ _ h => xadd_con h
  · exact c2_ok fun _ _ _ h => vlong_con h
theorem int_con {n : Int} (h : intQ n Q) : Con Tryz.prog 45 [.int .i64 n] Q := by
  obtain ⟨⟨h0, h1⟩, hq⟩ := h
  refine conN (gn := fnT Tryz.f45) (by kernel_rfl) conQ1_ok (inl := []) (LT := qint_live) (NT := qint_nils) rfl fun n0 => ?_
  rw [qint_E]
  have hd : (n : Rat).den = 1 := Rat.den_intCast n
  have hn : (n : Rat).num = n := Rat.num_intCast n
  by_cases hneg : n < 0
  · refine bif_pos hneg ⟨⟨by rw [wr (by omega) (by omega)]; omega, by rw [wr (by omega) (by omega)]; omega⟩, natI1, ?_⟩
    rw [wr (by omega) (by omega), show (0 - n).toNat = n.natAbs by omega]
    refine res_plain (hq (true, limbsOf n.natAbs, limbsOf 1) ⟨?_, ?_, .inl ?_⟩) rfl rfl
    · rw [hn]; exact (decide_eq_true hneg).symm
    · rw [hn]
    · rw [hd]
  · refine bif_neg hneg ⟨⟨by omega, by omega⟩, natI1, ?_⟩
    rw [show n.toNat = n.natAbs by omega]
    refine res_plain (hq (false, limbsOf n.natAbs, limbsOf 1) ⟨?_, ?_, .inl ?_⟩) rfl rfl
    · rw [hn]; exact (decide_eq_false hneg).symm
    · rw [hn]
    · rw [hd]
theorem mvec_con (h : vecErrS v Q) : Con Tryz.prog 42 [.imm eS v] Q := by
  obtain ⟨ht, hq⟩ := h
  refine conN (gn := fnT Tryz.f42) (by kernel_rfl) conM1_ok (inl := []) (LT := mvec_live) (NT := mvec_nils) rfl fun n0 => ?_
  rw [mvec_E]
  unfold vecErr at hq
  by_cases h1 : 40 < v.length
  · rw [if_pos h1] at hq
    exact bif_pos (by omega) (res_int hq)
  · rw [if_neg h1] at hq
    exact bif_neg (by omega) ⟨ht, res_int hq⟩
theorem xvec_con (h : vecErrS v Q) : Con Tryz.prog 14 [.imm eS v] Q := by
  obtain ⟨ht, hq⟩ := h
  refine conN (gn := fnT Tryz.f14) (by kernel_rfl) conM1_ok (inl := []) (LT := xvec_live) (NT := xvec_nils) rfl fun n0 => ?_
  rw [xvec_E]
  unfold vecErr at hq
  by_cases h1 : 40 < v.length
  · rw [if_pos h1] at hq
    exact bif_pos (by omega) (res_int hq)
  · rw [if_neg h1] at hq
    exact bif_neg (by omega) ⟨ht, res_int hq⟩
theorem mwidth_con (h : wideS m Q) : Con Tryz.prog 64 [.imm (eL eS) m] Q := by
  refine conN (gn := fnT Tryz.f64) (by kernel_rfl) conM1_ok (inl := []) (LT := mwidth_live) (NT := mwidth_nils) rfl fun n0 => ?_
  rw [mwidth_E]
  unfold wideS wide at h
  by_cases h0 : m.length = 0
  · have : m = [] := List.length_eq_zero_iff.1 h0
    subst this
    exact bif_pos (by omega) (res_int h)
  · exact bif_neg (by omega) (bif_pos (by omega) (res_int h))
theorem xwide_con (h : wideS m Q) : Con Tryz.prog 31 [.imm (eL eS) m] Q := by
  refine conN (gn := fnT Tryz.f31) (by kernel_rfl) conM1_ok (inl := []) (LT := xwide_live) (NT := xwide_nils) rfl fun n0 => ?_
  rw [xwide_E]
  unfold wideS wide at h
  by_cases h0 : m.length = 0
  · have : m = [] := List.length_eq_zero_iff.1 h0
    subst this
    exact bif_neg (by decide) (res_int h)
  · exact bif_pos (by omega) (bif_pos (by omega) (res_int h))
theorem row_con (h : rowS v Q) : Con Tryz.prog 43 [.imm eS v] Q := by
  obtain ⟨⟨h0, hn⟩, hq⟩ := h
  unfold TxN at hn
  refine conN (gn := fnT Tryz.f43) (by kernel_rfl) conM1_ok (inl := []) (LT := mrow_live) (NT := mrow_nils) rfl fun n0 => ?_
  rw [mrow_E]
  refine loopN (f := 43) (gn := fnT Tryz.f43) (n0 := n0) (r := 3) (by kernel_rfl) conM1_ok (inl := []) (LT := mrow_live) (NT := mrow_nils) (K := resK Q) (fun y : Nat × List QT => mrow_s3_0 v (v.length : Int) (y.1 : Int) y.2) (fun y => v.length - y.1) (fun y => y.1 ≤ v.length ∧ QF y.2 y.1 (vent v)) (fun y hp ih => ?_) (0, []) ⟨Nat.zero_le _, QF.nil _⟩
  obtain ⟨x, zs⟩ := y
  obtain ⟨hx0, hz⟩ := hp
  simp only at hx0 hz
  show execN _ _ _ _ _ _ (mrow_s3_0 v (v.length : Int) (x : Int) zs)
  rw [mrow_s3_0_E]
  by_cases hx : x < v.length
  · obtain ⟨a1, a2⟩ := num_at h0 hx
    refine bif_pos (by omega) (bif_and (bif_pos (by omega) (bif_pos (by omega) ?_)))
    rw [Int.toNat_natCast, wrS hx (by omega)]
    exact ⟨_, a1, a2.mono (by decide), fun z hz2 => bif_t (roomN (len_snoc hz.len (by omega)) (by decide)) (ih (x + 1, zs ++ [z]) ⟨by show x + 1 ≤ _; omega, hz.push hz2⟩ (by show v.length - (x + 1) < v.length - x; omega))⟩
  · have hxx : x = v.length := by omega
    subst hxx
    exact bif_neg (by omega) (res_own rfl (hq zs hz))
theorem conM2_ok : ∀ g xs Q, conM2 g xs Q → Con Tryz.prog g xs Q := table_ok fun p hp => by
  simp only [List.mem_cons, List.not_mem_nil, or_false] at hp
  rcases hp with rfl | rfl | rfl | rfl | rfl
  · exact c1_ok fun _ _ h => mvec_con h
  · exact c1_ok fun _ _ h => row_con h
  · exact c1_ok fun _ _ h => xvec_con h
  · exact c1_ok fun _ _ h => xwide_con h
  · exact c1_ok fun _ _ h => mwidth_con h
theorem drop_row {l : List (List ByteArray)} {x : Nat} (hx : x < l.length) : l.drop x = l.getD x [] :: l.drop (x + 1) := by
  rw [List.drop_eq_getElem_cons hx, List.getD_eq_getElem?_getD, List.getElem?_eq_getElem hx]; rfl
theorem rows_at {l : List (List ByteArray)} {w x : Nat} (hx : x < l.length) : rowErrs w (l.drop x) = if rowErr w (l.getD x []) = 0 then rowErrs w (l.drop (x + 1)) else rowErr w (l.getD x []) := by
  rw [drop_row hx]; rfl
theorem row_same {w : Nat} {r : List ByteArray} (h : r.length = w) : rowErr w r = vecErr r := if_neg fun hc => hc h
theorem row_other {w : Nat} {r : List ByteArray} (h : ¬ r.length = w) : rowErr w r = 3 := if_pos h
theorem mcheck_con (h : matErrS m Q) : Con Tryz.prog 63 [.imm (eL eS) m] Q := by
  obtain ⟨ht, hq⟩ := h
  refine conN (gn := fnT Tryz.f63) (by kernel_rfl) conM2_ok (inl := []) (LT := mcheck_live) (NT := mcheck_nils) rfl fun n0 => ?_
  rw [mcheck_E]
  have hk : ∀ e H, matErr m = e → resK Q (.int .i64 e) H := fun e H h1 => by rw [h1] at hq; exact res_int hq
  unfold matErr at hk
  by_cases h1 : 40 < m.length
  · simp only [if_pos h1] at hk
    exact bif_pos (by omega) (hk _ _ rfl)
  simp only [if_neg h1] at hk
  refine bif_neg (by omega) ?_
  refine loopN (f := 63) (gn := fnT Tryz.f63) (n0 := n0) (r := 4) (by kernel_rfl) conM2_ok (inl := []) (LT := mcheck_live) (NT := mcheck_nils) (K := resK Q) (fun x : Nat => mcheck_s4_0 m (m.length : Int) (x : Int)) (fun x => m.length - x) (fun x => x ≤ m.length ∧ rowErrs (wide m) m = rowErrs (wide m) (m.drop x)) (fun x hp ih => ?_) 0 ⟨Nat.zero_le _, by rw [List.drop_zero]⟩
  obtain ⟨hp, he⟩ := hp
  rw [mcheck_s4_0_E]
  by_cases hx : x < m.length
  · rw [rows_at hx] at he
    refine bif_pos (by omega) (bif_and (bif_pos (by omega) (bif_pos (by omega) (bif_pos (by omega) ?_))))
    rw [Int.toNat_natCast, wrS hx (by omega)]
    by_cases h2 : (m.getD x []).length = wide m
    · rw [row_same h2] at he
      refine bif_not (bif_pos (by unfold wide at h2; omega) ⟨ht.2 _ (getD_mem hx), ?_⟩)
      by_cases h3 : vecErr (m.getD x []) = 0
      · rw [if_pos h3] at he
        exact bif_not (bif_pos h3 (ih (x + 1) ⟨by omega, he⟩ (by omega)))
      · rw [if_neg h3] at he
        exact bif_not (bif_neg h3 (hk _ _ he))
    · rw [row_other h2, if_neg (by decide)] at he
      exact bif_not (bif_neg (by unfold wide at h2; omega) (hk _ _ he))
  · rw [List.drop_eq_nil_of_le (by omega)] at he
    exact bif_neg (by omega) (hk _ _ he)
theorem xmat_con (h : matErrS m Q) : Con Tryz.prog 62 [.imm (eL eS) m] Q := by
  obtain ⟨ht, hq⟩ := h
  refine conN (gn := fnT Tryz.f62) (by kernel_rfl) conM2_ok (inl := []) (LT := xmat_live) (NT := xmat_nils) rfl fun n0 => ?_
  rw [xmat_E]
  have hk : ∀ e H, matErr m = e → resK Q (.int .i64 e) H := fun e H h1 => by rw [h1] at hq; exact res_int hq
  unfold matErr at hk
  by_cases h1 : 40 < m.length
  · simp only [if_pos h1] at hk
    exact bif_pos (by omega) (hk _ _ rfl)
  simp only [if_neg h1] at hk
  refine bif_neg (by omega) ?_
  refine loopN (f := 62) (gn := fnT Tryz.f62) (n0 := n0) (r := 4) (by kernel_rfl) conM2_ok (inl := []) (LT := xmat_live) (NT := xmat_nils) (K := resK Q) (fun x : Nat => xmat_s4_0 m (m.length : Int) (x : Int)) (fun x => m.length - x) (fun x => x ≤ m.length ∧ rowErrs (wide m) m = rowErrs (wide m) (m.drop x)) (fun x hp ih => ?_) 0 ⟨Nat.zero_le _, by rw [List.drop_zero]⟩
  obtain ⟨hp, he⟩ := hp
  rw [xmat_s4_0_E]
  by_cases hx : x < m.length
  · rw [rows_at hx] at he
    refine bif_pos (by omega) (bif_and (bif_pos (by omega) (bif_pos (by omega) (bif_pos (by omega) ?_))))
    rw [Int.toNat_natCast, wrS hx (by omega)]
    by_cases h2 : (m.getD x []).length = wide m
    · rw [row_same h2] at he
      refine bif_not (bif_pos (by unfold wide at h2; omega) (bif_and (bif_pos (by omega) (bif_pos (by omega) ⟨ht.2 _ (getD_mem hx), ?_⟩))))
      by_cases h3 : vecErr (m.getD x []) = 0
      · rw [if_pos h3] at he
        exact bif_not (bif_pos h3 (ih (x + 1) ⟨by omega, he⟩ (by omega)))
      · rw [if_neg h3] at he
        exact bif_not (bif_neg h3 (hk _ _ he))
    · rw [row_other h2, if_neg (by decide)] at he
      exact bif_not (bif_neg (by unfold wide at h2; omega) (hk _ _ he))
  · rw [List.drop_eq_nil_of_le (by omega)] at he
    exact bif_neg (by omega) (hk _ _ he)
theorem vec_ok (h : vecErr v = 0) : v.length ≤ 40 ∧ ratErrs v = 0 := by
  unfold vecErr at h
  split at h
  · cases h
  · exact ⟨by omega, h⟩
theorem rows_ok {w : Nat} : ∀ {l : List (List ByteArray)}, rowErrs w l = 0 → ∀ r ∈ l, r.length = w ∧ vecErr r = 0
  | [], _, r, hr => absurd hr (by simp)
  | a :: l, h, r, hr => by
    unfold rowErrs at h
    split at h
    · rename_i h0
      rcases List.mem_cons.1 hr with rfl | hr
      · unfold rowErr at h0
        split at h0
        · cases h0
        · rename_i h1; exact ⟨Decidable.not_not.1 h1, h0⟩
      · exact rows_ok h r hr
    · rename_i h0; exact absurd h h0
structure MatOk (m : List (List ByteArray)) : Prop where
  len : m.length ≤ 40
  wide : wide m ≤ 40
  row : ∀ i, i < m.length → (m.getD i []).length = Lib.wide m ∧ ratErrs (m.getD i []) = 0
  ent : ∀ i k, i < m.length → k < Lib.wide m → (m.getD i []).getD k b0 = ratText (ent m i k) ∧ Sz 2000 (Lib.ent m i k)
theorem mat_ok (h : matErr m = 0) : MatOk m := by
  unfold matErr at h
  split at h
  · cases h
  · rename_i hl
    have hr := rows_ok h
    have row : ∀ i, i < m.length → (m.getD i []).length = wide m ∧ ratErrs (m.getD i []) = 0 := fun i hi => ⟨(hr _ (getD_mem hi)).1, (vec_ok (hr _ (getD_mem hi)).2).2⟩
    refine ⟨by omega, ?_, row, fun i k hi hk => num_at (row i hi).2 (by rw [(row i hi).1]; exact hk)⟩
    by_cases h0 : 0 < m.length
    · exact (vec_ok (hr _ (getD_mem (d := []) h0)).2).1
    · have : m = [] := List.length_eq_zero_iff.1 (by omega)
      subst this
      exact Nat.zero_le _
theorem grid_con (h : gridS m Q) : Con Tryz.prog 25 [.imm (eL eS) m] Q := by
  obtain ⟨h0, hq⟩ := h
  have M := mat_ok h0
  have hl := M.len
  have hw := M.wide
  refine conN (gn := fnT Tryz.f25) (by kernel_rfl) conM2_ok (inl := []) (LT := mgrid_live) (NT := mgrid_nils) rfl fun n0 => ?_
  rw [mgrid_E]
  refine loopN (f := 25) (gn := fnT Tryz.f25) (n0 := n0) (r := 3) (by kernel_rfl) conM2_ok (inl := []) (LT := mgrid_live) (NT := mgrid_nils) (K := resK Q) (fun y : Nat × List (List QT) => mgrid_s3_0 m (m.length : Int) (y.1 : Int) y.2) (fun y => m.length - y.1) (fun y => y.1 ≤ m.length ∧ GF y.2 y.1 (wide m) (ent m)) (fun y hp ih => ?_) (0, []) ⟨Nat.zero_le _, GF.nil _ _⟩
  obtain ⟨x, zs⟩ := y
  obtain ⟨hx0, hz⟩ := hp
  simp only at hx0 hz
  show execN _ _ _ _ _ _ (mgrid_s3_0 m (m.length : Int) (x : Int) zs)
  rw [mgrid_s3_0_E]
  by_cases hx : x < m.length
  · obtain ⟨r1, r2⟩ := M.row x hx
    refine bif_pos (by omega) (bif_and (bif_pos (by omega) (bif_pos (by omega) ?_)))
    rw [Int.toNat_natCast, wrS hx (by omega)]
    refine ⟨⟨r2, by unfold TxN; omega⟩, fun z hz2 => bif_t (roomN (len_snoc hz.len (by omega)) (by decide)) (ih (x + 1, zs ++ [z]) ⟨by show x + 1 ≤ _; omega, hz.push ?_⟩ (by show m.length - (x + 1) < m.length - x; omega))⟩
    rw [r1] at hz2
    exact hz2
  · have hxx : x = m.length := by omega
    subst hxx
    exact bif_neg (by omega) (res_own rfl (hq zs hz))
theorem conM3_ok : ∀ g xs Q, conM3 g xs Q → Con Tryz.prog g xs Q := table_ok fun p hp => by
  simp only [List.mem_cons, List.not_mem_nil, or_false] at hp
  rcases hp with rfl | rfl | rfl | rfl
  · exact c1_ok fun _ _ h => mcheck_con h
  · exact c1_ok fun _ _ h => mwidth_con h
  · exact c1_ok fun _ _ h => xwide_con h
  · exact c1_ok fun _ _ h => xmat_con h
theorem vecE_at {n x : Nat} {f : Nat → Rat} (hx : x < n) (h : fitV (f x) ≠ 0) : vecE n f = 2 ∧ fitV (f x) = 2 := by
  refine ⟨if_neg fun hc => h (hc x hx), ?_⟩
  unfold fitV at h ⊢
  split at h
  · rename_i h1; rw [if_pos h1]
  · exact absurd rfl h
theorem texts_succ (n : Nat) (f : Nat → Rat) : textsOf (n + 1) f = textsOf n f ++ [ratText (f n)] := by
  unfold textsOf
  rw [List.range_succ, List.map_append]; rfl
theorem texts_len (n : Nat) (f : Nat → Rat) : (textsOf n f).length = n := by unfold textsOf; simp
theorem texts_getD {n i : Nat} {f : Nat → Rat} (h : i < n) : (textsOf n f).getD i b0 = ratText (f i) := by
  unfold textsOf
  rw [List.getD_eq_getElem?_getD, List.getElem?_map, List.getElem?_range h]; rfl
theorem vecE_fit {n : Nat} {f : Nat → Rat} (h : SzF 2000 n f) : vecE n f = 0 := if_pos fun i hi => fit_of (h i hi)
theorem out_conV {zs : List QT} (h : outVS zs Q) : Con Tryz.prog 29 [.imm eQ zs] Q := by
  obtain ⟨n, f, hz, hn, hs, hq⟩ := h
  unfold TxN at hn
  have hzl := hz.len
  refine outL_seal (e := eS) (l := vecV n f) (n := vecE n f) ?_ hq
  refine conN (gn := fnT Tryz.f29) (by kernel_rfl) conM1_ok (inl := []) (LT := mout_live) (NT := mout_nils) rfl fun n0 => ?_
  rw [mout_E]
  refine loopN (f := 29) (gn := fnT Tryz.f29) (n0 := n0) (r := 3) (by kernel_rfl) conM1_ok (inl := []) (LT := mout_live) (NT := mout_nils) (K := resK (outL eS (vecV n f) (vecE n f))) (fun x : Nat => mout_s3_0 zs (zs.length : Int) (x : Int) (textsOf x f)) (fun x => zs.length - x) (fun x => x ≤ zs.length ∧ ∀ i, i < x → fitV (f i) = 0) (fun x hp ih => ?_) 0 ⟨Nat.zero_le _, fun i hi => absurd hi (Nat.not_lt_zero _)⟩
  obtain ⟨hx0, hf⟩ := hp
  rw [mout_s3_0_E]
  by_cases hx : x < zs.length
  · have hv := hz.at_ x (by omega)
    refine bif_pos (by omega) (bif_and (bif_pos (by omega) (bif_pos (by omega) ?_)))
    rw [Int.toNat_natCast, wrS hx (by omega)]
    refine ⟨_, hv, hs x (by omega), ?_⟩
    by_cases h0 : fitV (f x) = 0
    · have ih' := ih (x + 1) ⟨by omega, fun i hi => by
        by_cases hix : i = x
        · rw [hix]; exact h0
        · exact hf i (by omega)⟩ (by omega)
      rw [texts_succ] at ih'
      exact bif_not (bif_pos h0 ⟨_, hv, hs x (by omega), bif_t (roomN (len_snoc (texts_len x f) (by omega)) (by decide)) ih'⟩)
    · obtain ⟨e1, e2⟩ := vecE_at (n := n) (by omega) h0
      refine bif_not (bif_neg h0 ?_)
      rw [e2, e1]
      exact outL_nil (by unfold vecV; rw [e1]; rfl)
  · have hxx : x = n := by omega
    subst hxx
    have e : vecE x f = 0 := if_pos hf
    refine bif_neg (by omega) ?_
    have e2 : vecV x f = textsOf x f := if_pos e
    rw [e, e2]
    exact outL_own rfl
theorem gcheck_con (h : gameErrS m Q) : Con Tryz.prog 32 [.imm (eL eS) m] Q := by
  obtain ⟨ht, hq⟩ := h
  refine conN (gn := fnT Tryz.f32) (by kernel_rfl) conM3_ok (inl := []) (LT := gcheck_live) (NT := gcheck_nils) rfl fun n0 => ?_
  rw [gcheck_E]
  unfold gameErr at hq
  by_cases h1 : 12 < m.length
  · rw [if_pos h1] at hq
    exact bif_pos (by omega) (res_int hq)
  rw [if_neg h1] at hq
  refine bif_neg (by omega) ⟨ht, ?_⟩
  by_cases h2 : matErr m = 0
  · rw [if_neg (fun h => h h2)] at hq
    refine bif_not (bif_pos h2 ?_)
    by_cases h3 : wide m = 0
    · rw [if_pos h3] at hq
      exact bif_pos (by omega) (res_int hq)
    rw [if_neg h3] at hq
    have hpos : 0 < m.length := by
      rcases Nat.eq_zero_or_pos m.length with h0 | h0
      · rw [List.length_eq_zero_iff.1 h0] at h3
        exact absurd rfl h3
      · exact h0
    refine bif_neg (by omega) (bif_pos (by omega) ?_)
    by_cases h4 : 12 < wide m
    · rw [if_pos h4] at hq
      exact bif_pos (by unfold wide at h4; omega) (res_int hq)
    · rw [if_neg h4] at hq
      exact bif_neg (by unfold wide at h4; omega) (res_int hq)
  · rw [if_pos h2] at hq
    exact bif_not (bif_neg h2 (res_int hq))
theorem lgame_con (h : gameErrS m Q) : Con Tryz.prog 30 [.imm (eL eS) m] Q := by
  obtain ⟨ht, hq⟩ := h
  refine conN (gn := fnT Tryz.f30) (by kernel_rfl) conM3_ok (inl := []) (LT := lgame_live) (NT := lgame_nils) rfl fun n0 => ?_
  rw [lgame_E]
  unfold gameErr at hq
  by_cases h1 : 12 < m.length
  · rw [if_pos h1] at hq
    exact bif_pos (by omega) (res_int hq)
  rw [if_neg h1] at hq
  refine bif_neg (by omega) ⟨ht, ?_⟩
  by_cases h2 : matErr m = 0
  · rw [if_neg (fun h => h h2)] at hq
    refine bif_not (bif_pos h2 ?_)
    by_cases h3 : wide m = 0
    · rw [if_pos h3] at hq
      exact bif_pos (by omega) (res_int hq)
    rw [if_neg h3] at hq
    refine bif_neg (by omega) ?_
    by_cases h4 : 12 < wide m
    · rw [if_pos h4] at hq
      exact bif_pos (by omega) (res_int hq)
    · rw [if_neg h4] at hq
      exact bif_neg (by omega) (res_int hq)
  · rw [if_pos h2] at hq
    exact bif_not (bif_neg h2 (res_int hq))
theorem lweight_con {l : List (List ByteArray)} (h : wghtS l Q) : Con Tryz.prog 6 [.imm (eL eS) l] Q := by
  obtain ⟨⟨hl, hr⟩, hq⟩ := h
  refine conN (gn := fnT Tryz.f6) (by kernel_rfl) conM1_ok (inl := []) (LT := lweight_live) (NT := lweight_nils) rfl fun n0 => ?_
  rw [lweight_E]
  refine loopN (f := 6) (gn := fnT Tryz.f6) (n0 := n0) (r := 3) (by kernel_rfl) conM1_ok (inl := []) (LT := lweight_live) (NT := lweight_nils) (K := resK Q) (fun y : Int × Nat => lweight_s3_0 l y.1 (l.length : Int) (y.2 : Int)) (fun y => l.length - y.2) (fun y => y.2 ≤ l.length) (fun y hp ih => ?_) (0, 0) (Nat.zero_le _)
  obtain ⟨n, x⟩ := y
  simp only at hp
  show execN _ _ _ _ _ _ (lweight_s3_0 l n (l.length : Int) (x : Int))
  rw [lweight_s3_0_E]
  by_cases hx : x < l.length
  · refine bif_pos (by omega) (bif_and (bif_pos (by omega) (bif_pos (by omega) ?_)))
    rw [Int.toNat_natCast]
    have hrr := hr _ (getD_mem (d := []) hx)
    generalize l.getD x [] = r at hrr
    refine loopN (f := 6) (gn := fnT Tryz.f6) (n0 := n0) (r := 6) (by kernel_rfl) conM1_ok (inl := []) (LT := lweight_live) (NT := lweight_nils) (K := resK Q) (fun y : Int × Nat => lweight_s6_0 l y.1 (l.length : Int) (x : Int) r (r.length : Int) (y.2 : Int)) (fun y => r.length - y.2) (fun y => y.2 ≤ r.length) (fun y hp ih2 => ?_) (n, 0) (Nat.zero_le _)
    obtain ⟨m, k⟩ := y
    simp only at hp
    show execN _ _ _ _ _ _ (lweight_s6_0 l m (l.length : Int) (x : Int) r (r.length : Int) (k : Int))
    rw [lweight_s6_0_E]
    by_cases hk : k < r.length
    · refine bif_pos (by omega) (bif_and (bif_pos (by omega) (bif_pos (by omega) ?_)))
      rw [wrS hk (by omega)]
      exact ih2 (_, k + 1) (by show k + 1 ≤ r.length; omega) (by show r.length - (k + 1) < r.length - k; omega)
    · refine bif_neg (by omega) ?_
      rw [wrS hx (by omega)]
      exact ih (_, x + 1) (by show x + 1 ≤ l.length; omega) (by show l.length - (x + 1) < l.length - x; omega)
  · exact bif_neg (by omega) (res_int (hq _))
theorem drop_get {α : Type} {d : α} {l : List α} {x : Nat} (hx : x < l.length) : l.drop x = l.getD x d :: l.drop (x + 1) := by
  rw [List.drop_eq_getElem_cons hx, List.getD_eq_getElem?_getD, List.getElem?_eq_getElem hx]; rfl
theorem lvast_con {n : Int} {ms : List (List (List ByteArray))} (h : vastS n ms Q) : Con Tryz.prog 10 [.int .i64 n, .imm (eL (eL eS)) ms] Q := by
  obtain ⟨⟨hl, hm⟩, hq⟩ := h
  have hk : ∀ b H, vastV n ms = b → resK Q (.bool b) H := fun b H h => by rw [h] at hq; exact res_bool hq
  refine conN (gn := fnT Tryz.f10) (by kernel_rfl) conM1_ok (inl := [33]) (LT := lvast_live) (NT := lvast_nils) rfl fun n0 => ?_
  rw [lvast_E]
  refine loopN (f := 10) (gn := fnT Tryz.f10) (n0 := n0) (r := 2) (by kernel_rfl) conM1_ok (inl := [33]) (LT := lvast_live) (NT := lvast_nils) (K := resK Q) (fun x : Nat => lvast_s2_0 n ms (ms.length : Int) (x : Int)) (fun x => ms.length - x) (fun x => x ≤ ms.length ∧ vastV n ms = (ms.drop x).any (vastM n)) (fun x hp ih => ?_) 0 ⟨Nat.zero_le _, by rw [List.drop_zero]; rfl⟩
  obtain ⟨hp, he⟩ := hp
  rw [lvast_s2_0_E]
  by_cases hx : x < ms.length
  · obtain ⟨m1, m2⟩ := hm _ (getD_mem (d := []) hx)
    rw [drop_get (d := []) hx, List.any_cons] at he
    refine bif_pos (by omega) (bif_and (bif_pos (by omega) (bif_pos (by omega) ?_)))
    rw [Int.toNat_natCast]
    generalize ms.getD x [] = m at m1 m2 he
    by_cases h1 : (m.length : Int) > n
    · exact bif_pos h1 (hk _ _ (by rw [he]; unfold vastM; rw [decide_eq_true h1]; rfl))
    refine bif_neg h1 ?_
    refine loopN (f := 10) (gn := fnT Tryz.f10) (n0 := n0) (r := 7) (by kernel_rfl) conM1_ok (inl := [33]) (LT := lvast_live) (NT := lvast_nils) (K := resK Q) (fun k : Nat => lvast_s7_0 n ms (ms.length : Int) (x : Int) m (m.length : Int) (k : Int)) (fun k => m.length - k) (fun k => k ≤ m.length ∧ vastV n ms = ((m.drop k).any (vast1 n) || (ms.drop (x + 1)).any (vastM n))) (fun k hp2 ih2 => ?_) 0 ⟨Nat.zero_le _, by rw [List.drop_zero, he]; unfold vastM; rw [decide_eq_false h1]; rfl⟩
    obtain ⟨hp2, he2⟩ := hp2
    rw [lvast_s7_0_E]
    by_cases hk2 : k < m.length
    · have hr := (m2 _ (getD_mem (d := []) hk2)).1
      rw [drop_get (d := []) hk2, List.any_cons] at he2
      refine bif_pos (by omega) (bif_and (bif_pos (by omega) (bif_pos (by omega) ?_)))
      rw [Int.toNat_natCast, wrS hk2 (by omega)]
      generalize m.getD k [] = v at hr he2
      by_cases h2 : (v.length : Int) > n
      · exact bif_pos h2 (hk _ _ (by rw [he2]; unfold vast1; rw [decide_eq_true h2]; rfl))
      refine bif_neg h2 ⟨hr, ?_⟩
      rw [cond_false]
      by_cases h3 : longI 12 v ≥ 0
      · exact bif_pos h3 (hk _ _ (by rw [he2]; unfold vast1; rw [decide_eq_true h3, Bool.or_true]; rfl))
      · refine bif_neg h3 (ih2 (k + 1) ⟨by omega, ?_⟩ (by omega))
        rw [he2]
        unfold vast1
        rw [decide_eq_false h2, decide_eq_false h3]; rfl
    · rw [List.drop_eq_nil_of_le (by omega)] at he2
      refine bif_neg (by omega) ?_
      rw [wrS hx (by omega)]
      exact ih (x + 1) ⟨by omega, he2⟩ (by omega)
  · rw [List.drop_eq_nil_of_le (by omega)] at he
    exact bif_neg (by omega) (hk _ _ he)
theorem long_none {k : Nat} {v : List ByteArray} (h : ¬ longI k v ≥ 0) : ∀ s ∈ v, s.size ≤ k := fun s hs => Nat.le_of_not_lt fun hc => by
  unfold longI at h
  cases hf : v.findIdx? fun s => decide (k < s.size) with
  | none =>
    have := List.findIdx?_eq_none_iff.1 hf s hs
    simp at this
    omega
  | some i =>
    rw [hf] at h
    simp at h
theorem vast_not {n : Int} {ms : List (List (List ByteArray))} (h : vastV n ms = false) : ∀ m ∈ ms, (m.length : Int) ≤ n ∧ ∀ v ∈ m, (v.length : Int) ≤ n ∧ ∀ s ∈ v, s.size ≤ 12 := fun m hm => by
  have h1 := List.any_eq_false.1 h m hm
  unfold vastM at h1
  simp only [Bool.or_eq_true, decide_eq_true_eq, not_or] at h1
  refine ⟨by omega, fun v hv => ?_⟩
  have h2 := List.any_eq_false.1 (Bool.eq_false_iff.2 h1.2) v hv
  unfold vast1 at h2
  simp only [Bool.or_eq_true, decide_eq_true_eq, not_or] at h2
  exact ⟨by omega, long_none h2.2⟩
end
end Go.Proofs.YtnjbabkfdcdkbaaGreatDoor.Lib
end
section
/- Package regret: contracts by values. -/
set_option linter.unusedVariables false
namespace Go.Proofs.YtnjbabkfdcdkbaaGreatDoor.Lib
open Go Go.Proofs.YtnjbabkfdcdkbaaGreatDoor.Mach Go.Proofs.YtnjbabkfdcdkbaaGreatDoorW.PrintWords Go.Proofs.YtnjbabkfdcdkbaaGreatDoor.Sem Go.Proofs.YtnjbabkfdcdkbaaGreatDoor.Pure
def inGB (n w : Nat) (x : Int × Int) : Bool := decide (0 ≤ x.1) && decide (x.1 < n) && decide (0 ≤ x.2) && decide (x.2 < w)
noncomputable def histErr (m : List (List ByteArray)) (l : List (Int × Int)) : Int := if gameErr m ≠ 0 then gameErr m else if 200 < l.length then 2 else if ∀ t, t < l.length → inGB m.length (wide m) (l.getD t p0) = true then 0 else 4
def rowsQ (F : Nat → Nat → Rat) (l : List (Int × Int)) (x i : Nat) : Rat := sumTo (fun t => F i (l.getD t p0).2.toNat) x
def colsQ (F : Nat → Nat → Rat) (l : List (Int × Int)) (x k : Nat) : Rat := sumTo (fun t => F (l.getD t p0).1.toNat k) x
def paidQ (F : Nat → Nat → Rat) (l : List (Int × Int)) (x : Nat) : Rat := sumTo (fun t => F (l.getD t p0).1.toNat (l.getD t p0).2.toNat) x
def TxP (n : Nat) : Prop := n ≤ 1000000000000000000
def histS (m : List (List ByteArray)) (l : List (Int × Int)) (Q : Res) : Prop := (TxM m ∧ TxP l.length) ∧ Q (.int .i64 (histErr m l)) []
structure Rounds (g : List (List QT)) (l : List (Int × Int)) (n w : Nat) (F : Nat → Nat → Rat) : Prop where
  g : GF g n w F
  n0 : 0 < n
  w0 : 0 < w
  n12 : n ≤ 12
  w12 : w ≤ 12
  sz : ∀ i k, i < n → k < w → Sz 2000 (F i k)
  l200 : l.length ≤ 200
  at_ : ∀ t, t < l.length → inGB n w (l.getD t p0) = true
def sumsS (g : List (List QT)) (l : List (Int × Int)) (Q : Res) : Prop := ∃ (n w : Nat) (F : Nat → Nat → Rat), Rounds g l n w F ∧ ∀ zr zc : List QT, QF zr n (rowsQ F l l.length) → QF zc w (colsQ F l l.length) → Q (.tup [.own 0, .own 1]) [.typed eQ zr false, .typed eQ zc false]
noncomputable def regA (m : List (List ByteArray)) (l : List (Int × Int)) (i : Nat) : Rat := rowsQ (ent m) l l.length i - paidQ (ent m) l l.length
noncomputable def regB (m : List (List ByteArray)) (l : List (Int × Int)) (k : Nat) : Rat := paidQ (ent m) l l.length - colsQ (ent m) l l.length k
noncomputable def regE (m : List (List ByteArray)) (l : List (Int × Int)) : Int := if histErr m l ≠ 0 then histErr m l else if vecE m.length (regA m l) ≠ 0 then vecE m.length (regA m l) else vecE (wide m) (regB m l)
noncomputable def regVA (m : List (List ByteArray)) (l : List (Int × Int)) : List ByteArray := if regE m l = 0 then textsOf m.length (regA m l) else []
noncomputable def regVB (m : List (List ByteArray)) (l : List (Int × Int)) : List ByteArray := if regE m l = 0 then textsOf (wide m) (regB m l) else []
def regS (m : List (List ByteArray)) (l : List (Int × Int)) (Q : Res) : Prop := (TxM m ∧ TxP l.length) ∧ Q (.tup [.imm eS (regVA m l), .imm eS (regVB m l), .int .i64 (regE m l)]) []
noncomputable def noneP (v : List ByteArray) : Bool := decide (∀ i, i < v.length → sgn (vent v i) ≤ 0)
noncomputable def wQ (v : List ByteArray) (i : Nat) : Rat := if noneP v = true then 1 else if sgn (vent v i) < 0 then 0 else vent v i
noncomputable def matQ (v : List ByteArray) (i : Nat) : Rat := wQ v i / sumTo (wQ v) v.length
noncomputable def matE (v : List ByteArray) : Int := if v.length = 0 then 8 else if 12 < v.length then 2 else if vecErr v ≠ 0 then vecErr v else vecE v.length (matQ v)
noncomputable def matV (v : List ByteArray) : List ByteArray := if matE v = 0 then textsOf v.length (matQ v) else []
def matS (v : List ByteArray) (Q : Res) : Prop := TxL v ∧ Q (.tup [.imm eS (matV v), .int .i64 (matE v)]) []
def cntTo (p : Nat → Bool) : Nat → Nat
  | 0 => 0
  | n + 1 => if p n = true then cntTo p n + 1 else cntTo p n
noncomputable def bestTo (f : Nat → Rat) : Nat → Nat
  | 0 => 0
  | x + 1 => if 0 < sgn (f x - f (bestTo f x)) then x else bestTo f x
noncomputable def leastTo (f : Nat → Rat) : Nat → Nat
  | 0 => 0
  | x + 1 => if sgn (f x - f (leastTo f x)) < 0 then x else leastTo f x
noncomputable def playL (F : Nat → Nat → Rat) (n w : Nat) : Nat → List (Int × Int)
  | 0 => []
  | T + 1 => playL F n w T ++ [(((bestTo (rowsQ F (playL F n w T) T) n : Nat) : Int), ((leastTo (colsQ F (playL F n w T) T) w : Nat) : Int))]
noncomputable def playE (m : List (List ByteArray)) (n : Int) : Int := if gameErr m ≠ 0 then gameErr m else if n < 0 ∨ 200 < n then 4 else 0
noncomputable def playV (m : List (List ByteArray)) (n : Int) : List (Int × Int) := if playE m n = 0 then playL (ent m) m.length (wide m) n.toNat else []
def playS (m : List (List ByteArray)) (n : Int) (Q : Res) : Prop := TxM m ∧ Q (.tup [.imm eP (playV m n), .int .i64 (playE m n)]) []
noncomputable def conG1 : FuncId → List AV → Res → Prop := tableC [(32, c1 vT gameErrS), (30, c1 vT gameErrS), (31, c1 vT wideS), (26, c2 vQ vQ addQ), (42, c1 vLS vecErrS), (43, c1 vLS rowS), (44, c1 vQ signS), (46, c2 vQ vQ quoQ), (45, c1 vI intQ), (29, c1 vLQ outVS), (25, c1 vT gridS), (50, c2 vQ vQ cmpQ), (49, c1 vQ outS)]
noncomputable def conG2 : FuncId → List AV → Res → Prop := tableC [(9, c2 vT vP histS), (27, c2 vG vP sumsS), (25, c1 vT gridS), (29, c1 vLQ outVS), (26, c2 vQ vQ addQ), (28, c2 vQ vQ subQ), (46, c2 vQ vQ quoQ), (50, c2 vQ vQ cmpQ), (45, c1 vI intQ), (49, c1 vQ outS), (51, c1 vQ toldS)]
def trueG (Q : Res) : Prop := Q (.bool true) []
noncomputable def conG3 : FuncId → List AV → Res → Prop := tableC [(5, c0 trueG), (6, c1 vT wghtS), (9, c2 vT vP histS), (8, c2 vT vP histS), (30, c1 vT gameErrS), (10, c2 vI vTT vastS), (7, c2 vT vP regS), (13, c1 vLS matS), (20, c2 vT vI playS), (14, c1 vLS vecErrS), (11, c2 vS vS xadd), (12, c2 vS vS xsub), (16, c2 vS vS xdiv), (15, c1 vS xsign), (17, c1 vI xint), (31, c1 vT wideS)]
end Go.Proofs.YtnjbabkfdcdkbaaGreatDoor.Lib
end
section
/- Equations of functions (printed). -/
namespace Go.Proofs.YtnjbabkfdcdkbaaGreatDoor.Mach
open Go Go.Proofs.YtnjbabkfdcdkbaaGreatDoor Go.Proofs.YtnjbabkfdcdkbaaGreatDoor.Lib
set_option linter.unusedVariables false
def rcheck_live : List (Nat × List Nat) := [(7, [0, 16, 17, 18])]
def rcheck_nils : List (Nat × ETy) := [(16, ETy.more (CTy.int IntKind.i64) (ETy.one (CTy.int IntKind.i64)))]
noncomputable def rcheck_s7_0 (m : List (List ByteArray)) (l : List (Int × Int)) (x0 : Int) (x1 : Int) : St := stOf 47 [(0, AV.imm (ETy.one (CTy.slice (ETy.one CTy.str))) m), (16, AV.imm (ETy.more (CTy.int IntKind.i64) (ETy.one (CTy.int IntKind.i64))) l), (17, AV.int IntKind.i64 x0), (18, AV.int IntKind.i64 x1)] []
set_option maxRecDepth 1000000 in
theorem rcheck_E (m : List (List ByteArray)) (l : List (Int × Int)) (n0 : Nat) (K : AV → List HObj → Prop) :
    execN tab (mixE tab conG1 [] 400) (maskN rcheck_live rcheck_nils (GoodL Tryz.prog n0 9 K)) (finK tab (fnT Tryz.f9).res K) 400 [.code (fnT Tryz.f9).body] ⟨initEnv (fnT Tryz.f9).n [AV.imm (ETy.one (CTy.slice (ETy.one CTy.str))) m, AV.imm (ETy.more (CTy.int IntKind.i64) (ETy.one (CTy.int IntKind.i64))) l], []⟩ =
    (TxM m ∧ bif !decide (gameErr m = 0) then K (AV.int IntKind.i64 (gameErr m)) [] else bif decide ((↑l.length : Int) > 200) then K (AV.int IntKind.i64 2) [] else GoodL Tryz.prog n0 9 K (headAt (fnT Tryz.f9) 7) (rcheck_s7_0 m l (↑l.length : Int) 0)) := by kernel_rfl
set_option maxRecDepth 1000000 in
theorem rcheck_s7_0_E (m : List (List ByteArray)) (l : List (Int × Int)) (x0 : Int) (x1 : Int) (n0 : Nat) (K : AV → List HObj → Prop) :
    execN tab (mixE tab conG1 [] 400) (maskN rcheck_live rcheck_nils (GoodL Tryz.prog n0 9 K)) (finK tab (fnT Tryz.f9).res K) 400 (roundAt (fnT Tryz.f9) 7) (rcheck_s7_0 m l x0 x1) =
    (bif decide (x1 < x0) then bif decide (0 ≤ x1) && decide (x1 < (↑l.length : Int)) then bif decide ([(l.getD x1.toNat (0, 0)).1, (l.getD x1.toNat (0, 0)).2].getD 0 0 < 0) then K (AV.int IntKind.i64 4) [HObj.typed (ETy.one (CTy.int IntKind.i64)) [(l.getD x1.toNat (0, 0)).1, (l.getD x1.toNat (0, 0)).2] false] else bif bif false then true else decide ([(l.getD x1.toNat (0, 0)).1, (l.getD x1.toNat (0, 0)).2].getD 0 0 ≥ (↑m.length : Int)) then K (AV.int IntKind.i64 4) [HObj.typed (ETy.one (CTy.int IntKind.i64)) [(l.getD x1.toNat (0, 0)).1, (l.getD x1.toNat (0, 0)).2] false] else bif bif false then true else decide ([(l.getD x1.toNat (0, 0)).1, (l.getD x1.toNat (0, 0)).2].getD 1 0 < 0) then K (AV.int IntKind.i64 4) [HObj.typed (ETy.one (CTy.int IntKind.i64)) [(l.getD x1.toNat (0, 0)).1, (l.getD x1.toNat (0, 0)).2] false] else bif decide (0 < (↑m.length : Int)) then bif bif false then true else decide ([(l.getD x1.toNat (0, 0)).1, (l.getD x1.toNat (0, 0)).2].getD 1 0 ≥ (↑(List.length (m.getD 0 [])) : Int)) then K (AV.int IntKind.i64 4) [HObj.typed (ETy.one (CTy.int IntKind.i64)) [(l.getD x1.toNat (0, 0)).1, (l.getD x1.toNat (0, 0)).2] false] else GoodL Tryz.prog n0 9 K (headAt (fnT Tryz.f9) 7) (rcheck_s7_0 m l x0 (IntKind.i64.wrap (x1 + 1))) else False else False else K (AV.int IntKind.i64 0) []) := by kernel_rfl
def lhist_live : List (Nat × List Nat) := [(7, [0, 16, 17, 18])]
def lhist_nils : List (Nat × ETy) := [(16, ETy.more (CTy.int IntKind.i64) (ETy.one (CTy.int IntKind.i64)))]
noncomputable def lhist_s7_0 (m : List (List ByteArray)) (l : List (Int × Int)) (x0 : Int) (x1 : Int) : St := stOf 45 [(0, AV.imm (ETy.one (CTy.slice (ETy.one CTy.str))) m), (16, AV.imm (ETy.more (CTy.int IntKind.i64) (ETy.one (CTy.int IntKind.i64))) l), (17, AV.int IntKind.i64 x0), (18, AV.int IntKind.i64 x1)] []
set_option maxRecDepth 1000000 in
theorem lhist_E (m : List (List ByteArray)) (l : List (Int × Int)) (n0 : Nat) (K : AV → List HObj → Prop) :
    execN tab (mixE tab conG1 [] 400) (maskN lhist_live lhist_nils (GoodL Tryz.prog n0 8 K)) (finK tab (fnT Tryz.f8).res K) 400 [.code (fnT Tryz.f8).body] ⟨initEnv (fnT Tryz.f8).n [AV.imm (ETy.one (CTy.slice (ETy.one CTy.str))) m, AV.imm (ETy.more (CTy.int IntKind.i64) (ETy.one (CTy.int IntKind.i64))) l], []⟩ =
    (TxM m ∧ bif !decide (gameErr m = 0) then K (AV.int IntKind.i64 (gameErr m)) [] else bif decide ((↑l.length : Int) > 200) then K (AV.int IntKind.i64 2) [] else GoodL Tryz.prog n0 8 K (headAt (fnT Tryz.f8) 7) (lhist_s7_0 m l (↑l.length : Int) 0)) := by kernel_rfl
set_option maxRecDepth 1000000 in
theorem lhist_s7_0_E (m : List (List ByteArray)) (l : List (Int × Int)) (x0 : Int) (x1 : Int) (n0 : Nat) (K : AV → List HObj → Prop) :
    execN tab (mixE tab conG1 [] 400) (maskN lhist_live lhist_nils (GoodL Tryz.prog n0 8 K)) (finK tab (fnT Tryz.f8).res K) 400 (roundAt (fnT Tryz.f8) 7) (lhist_s7_0 m l x0 x1) =
    (bif decide (x1 < x0) then bif decide (0 ≤ x1) && decide (x1 < (↑l.length : Int)) then bif decide ([(l.getD x1.toNat (0, 0)).1, (l.getD x1.toNat (0, 0)).2].getD 0 0 < 0) then K (AV.int IntKind.i64 4) [HObj.typed (ETy.one (CTy.int IntKind.i64)) [(l.getD x1.toNat (0, 0)).1, (l.getD x1.toNat (0, 0)).2] false] else bif bif false then true else decide ([(l.getD x1.toNat (0, 0)).1, (l.getD x1.toNat (0, 0)).2].getD 0 0 ≥ (↑m.length : Int)) then K (AV.int IntKind.i64 4) [HObj.typed (ETy.one (CTy.int IntKind.i64)) [(l.getD x1.toNat (0, 0)).1, (l.getD x1.toNat (0, 0)).2] false] else bif bif false then true else decide ([(l.getD x1.toNat (0, 0)).1, (l.getD x1.toNat (0, 0)).2].getD 1 0 < 0) then K (AV.int IntKind.i64 4) [HObj.typed (ETy.one (CTy.int IntKind.i64)) [(l.getD x1.toNat (0, 0)).1, (l.getD x1.toNat (0, 0)).2] false] else bif bif false then true else decide ([(l.getD x1.toNat (0, 0)).1, (l.getD x1.toNat (0, 0)).2].getD 1 0 ≥ (↑(wide m) : Int)) then K (AV.int IntKind.i64 4) [HObj.typed (ETy.one (CTy.int IntKind.i64)) [(l.getD x1.toNat (0, 0)).1, (l.getD x1.toNat (0, 0)).2] false] else GoodL Tryz.prog n0 8 K (headAt (fnT Tryz.f8) 7) (lhist_s7_0 m l x0 (IntKind.i64.wrap (x1 + 1))) else False else K (AV.int IntKind.i64 0) []) := by kernel_rfl
def rsums_live : List (Nat × List Nat) := [(3, [0, 6, 7, 20, 21, 22]), (6, [0, 6, 7, 9, 20, 21, 22, 27, 28]), (11, [0, 6, 7, 9, 20, 21, 22, 49, 50])]
def rsums_nils : List (Nat × ETy) := [(6, ETy.more CTy.bool (ETy.more (CTy.slice (ETy.one (CTy.int IntKind.u32))) (ETy.one (CTy.slice (ETy.one (CTy.int IntKind.u32)))))), (7, ETy.more CTy.bool (ETy.more (CTy.slice (ETy.one (CTy.int IntKind.u32))) (ETy.one (CTy.slice (ETy.one (CTy.int IntKind.u32)))))), (20, ETy.more (CTy.int IntKind.i64) (ETy.one (CTy.int IntKind.i64)))]
noncomputable def rsums_s3_0 (g : List (List (Bool × List Int × List Int))) (l : List (Int × Int)) (x0 : Int) (x1 : Int) (x2 : List (Bool × List Int × List Int)) (x3 : List (Bool × List Int × List Int)) : St := stOf 73 [(0, AV.imm (ETy.one (CTy.slice (ETy.more CTy.bool (ETy.more (CTy.slice (ETy.one (CTy.int IntKind.u32))) (ETy.one (CTy.slice (ETy.one (CTy.int IntKind.u32)))))))) g), (6, AV.own 0), (7, AV.own 1), (20, AV.imm (ETy.more (CTy.int IntKind.i64) (ETy.one (CTy.int IntKind.i64))) l), (21, AV.int IntKind.i64 x0), (22, AV.int IntKind.i64 x1)] [HObj.typed (ETy.more CTy.bool (ETy.more (CTy.slice (ETy.one (CTy.int IntKind.u32))) (ETy.one (CTy.slice (ETy.one (CTy.int IntKind.u32)))))) x2 false, HObj.typed (ETy.more CTy.bool (ETy.more (CTy.slice (ETy.one (CTy.int IntKind.u32))) (ETy.one (CTy.slice (ETy.one (CTy.int IntKind.u32)))))) x3 false]
noncomputable def rsums_s6_0 (g : List (List (Bool × List Int × List Int))) (l : List (Int × Int)) (x0 : Int) (x1 : Int) (x2 : Int) (x3 : Int) (x4 : List (Bool × List Int × List Int)) (x5 : List (Bool × List Int × List Int)) (x6 : List Int) : St := stOf 73 [(0, AV.imm (ETy.one (CTy.slice (ETy.more CTy.bool (ETy.more (CTy.slice (ETy.one (CTy.int IntKind.u32))) (ETy.one (CTy.slice (ETy.one (CTy.int IntKind.u32)))))))) g), (6, AV.own 0), (7, AV.own 1), (9, AV.parr 2), (20, AV.imm (ETy.more (CTy.int IntKind.i64) (ETy.one (CTy.int IntKind.i64))) l), (21, AV.int IntKind.i64 x0), (22, AV.int IntKind.i64 x1), (27, AV.int IntKind.i64 x2), (28, AV.int IntKind.i64 x3)] [HObj.typed (ETy.more CTy.bool (ETy.more (CTy.slice (ETy.one (CTy.int IntKind.u32))) (ETy.one (CTy.slice (ETy.one (CTy.int IntKind.u32)))))) x4 false, HObj.typed (ETy.more CTy.bool (ETy.more (CTy.slice (ETy.one (CTy.int IntKind.u32))) (ETy.one (CTy.slice (ETy.one (CTy.int IntKind.u32)))))) x5 false, HObj.typed (ETy.one (CTy.int IntKind.i64)) x6 false]
noncomputable def rsums_s11_0 (g : List (List (Bool × List Int × List Int))) (l : List (Int × Int)) (x0 : Int) (x1 : Int) (x2 : Int) (x3 : Int) (x4 : List (Bool × List Int × List Int)) (x5 : List (Bool × List Int × List Int)) (x6 : List Int) : St := stOf 73 [(0, AV.imm (ETy.one (CTy.slice (ETy.more CTy.bool (ETy.more (CTy.slice (ETy.one (CTy.int IntKind.u32))) (ETy.one (CTy.slice (ETy.one (CTy.int IntKind.u32)))))))) g), (6, AV.own 0), (7, AV.own 1), (9, AV.parr 2), (20, AV.imm (ETy.more (CTy.int IntKind.i64) (ETy.one (CTy.int IntKind.i64))) l), (21, AV.int IntKind.i64 x0), (22, AV.int IntKind.i64 x1), (49, AV.int IntKind.i64 x2), (50, AV.int IntKind.i64 x3)] [HObj.typed (ETy.more CTy.bool (ETy.more (CTy.slice (ETy.one (CTy.int IntKind.u32))) (ETy.one (CTy.slice (ETy.one (CTy.int IntKind.u32)))))) x4 false, HObj.typed (ETy.more CTy.bool (ETy.more (CTy.slice (ETy.one (CTy.int IntKind.u32))) (ETy.one (CTy.slice (ETy.one (CTy.int IntKind.u32)))))) x5 false, HObj.typed (ETy.one (CTy.int IntKind.i64)) x6 false]
set_option maxRecDepth 1000000 in
theorem rsums_E (g : List (List (Bool × List Int × List Int))) (l : List (Int × Int)) (n0 : Nat) (K : AV → List HObj → Prop) :
    execN tab (mixE tab conG1 [] 400) (maskN rsums_live rsums_nils (GoodL Tryz.prog n0 27 K)) (finK tab (fnT Tryz.f27).res K) 400 [.code (fnT Tryz.f27).body] ⟨initEnv (fnT Tryz.f27).n [AV.imm (ETy.one (CTy.slice (ETy.more CTy.bool (ETy.more (CTy.slice (ETy.one (CTy.int IntKind.u32))) (ETy.one (CTy.slice (ETy.one (CTy.int IntKind.u32)))))))) g, AV.imm (ETy.more (CTy.int IntKind.i64) (ETy.one (CTy.int IntKind.i64))) l], []⟩ =
    (bif decide (0 < (↑g.length : Int)) then (bif decide (0 ≤ (↑(List.length (g.getD 0 [])) : Int)) && decide ((↑(List.length (g.getD 0 [])) : Int) ≤ (↑(List.length (g.getD 0 [])) : Int)) && bif (↑(List.length (g.getD 0 [])) : Int).toNat.ble 9223372036854775807 then ((↑(List.length (g.getD 0 [])) : Int).toNat * 56).ble 281474976710656 else false then bif decide (0 ≤ (↑g.length : Int)) && decide ((↑g.length : Int) ≤ (↑g.length : Int)) && bif (↑g.length : Int).toNat.ble 9223372036854775807 then ((↑g.length : Int).toNat * 56).ble 281474976710656 else false then GoodL Tryz.prog n0 27 K (headAt (fnT Tryz.f27) 3) (rsums_s3_0 g l (↑l.length : Int) 0 (List.replicate (↑g.length : Int).toNat (false, [], [])) (List.replicate (↑(List.length (g.getD 0 [])) : Int).toNat (false, [], []))) else False else False) ∧ bif decide (0 ≤ (↑g.length : Int)) && decide ((↑g.length : Int) ≤ (↑g.length : Int)) && bif (↑g.length : Int).toNat.ble 9223372036854775807 then ((↑g.length : Int).toNat * 56).ble 281474976710656 else false then bif decide (0 ≤ (↑(List.length (g.getD 0 [])) : Int)) && decide ((↑(List.length (g.getD 0 [])) : Int) ≤ (↑(List.length (g.getD 0 [])) : Int)) && bif (↑(List.length (g.getD 0 [])) : Int).toNat.ble 9223372036854775807 then ((↑(List.length (g.getD 0 [])) : Int).toNat * 56).ble 281474976710656 else false then GoodL Tryz.prog n0 27 K (headAt (fnT Tryz.f27) 3) (rsums_s3_0 g l (↑l.length : Int) 0 (List.replicate (↑g.length : Int).toNat (false, [], [])) (List.replicate (↑(List.length (g.getD 0 [])) : Int).toNat (false, [], []))) else False else False else False) := by kernel_rfl
set_option maxRecDepth 1000000 in
theorem rsums_s3_0_E (g : List (List (Bool × List Int × List Int))) (l : List (Int × Int)) (x0 : Int) (x1 : Int) (x2 : List (Bool × List Int × List Int)) (x3 : List (Bool × List Int × List Int)) (n0 : Nat) (K : AV → List HObj → Prop) :
    execN tab (mixE tab conG1 [] 400) (maskN rsums_live rsums_nils (GoodL Tryz.prog n0 27 K)) (finK tab (fnT Tryz.f27).res K) 400 (roundAt (fnT Tryz.f27) 3) (rsums_s3_0 g l x0 x1 x2 x3) =
    (bif decide (x1 < x0) then bif decide (0 ≤ x1) && decide (x1 < (↑l.length : Int)) then GoodL Tryz.prog n0 27 K (headAt (fnT Tryz.f27) 6) (rsums_s6_0 g l x0 x1 (↑x2.length : Int) 0 x2 x3 [(l.getD x1.toNat (0, 0)).1, (l.getD x1.toNat (0, 0)).2]) else False else K (AV.tup [AV.own 0, AV.own 1]) [HObj.typed (ETy.more CTy.bool (ETy.more (CTy.slice (ETy.one (CTy.int IntKind.u32))) (ETy.one (CTy.slice (ETy.one (CTy.int IntKind.u32)))))) x2 false, HObj.typed (ETy.more CTy.bool (ETy.more (CTy.slice (ETy.one (CTy.int IntKind.u32))) (ETy.one (CTy.slice (ETy.one (CTy.int IntKind.u32)))))) x3 false]) := by kernel_rfl
set_option maxRecDepth 1000000 in
theorem rsums_s6_0_E (g : List (List (Bool × List Int × List Int))) (l : List (Int × Int)) (x0 : Int) (x1 : Int) (x2 : Int) (x3 : Int) (x4 : List (Bool × List Int × List Int)) (x5 : List (Bool × List Int × List Int)) (x6 : List Int) (n0 : Nat) (K : AV → List HObj → Prop) :
    execN tab (mixE tab conG1 [] 400) (maskN rsums_live rsums_nils (GoodL Tryz.prog n0 27 K)) (finK tab (fnT Tryz.f27).res K) 400 (roundAt (fnT Tryz.f27) 6) (rsums_s6_0 g l x0 x1 x2 x3 x4 x5 x6) =
    (bif decide (x3 < x2) then bif decide (0 ≤ x3) && decide (x3 < (↑x4.length : Int)) then bif decide (0 ≤ x3) && decide (x3 < (↑g.length : Int)) then bif Nat.beq 2 x6.length && decide (1 < (↑x6.length : Int)) then bif decide (0 ≤ x6.getD 1 0) && decide (x6.getD 1 0 < (↑(List.length (g.getD x3.toNat [])) : Int)) then ∃ x y, Sem.QV ((x4.getD x3.toNat (false, [], [])).1, (x4.getD x3.toNat (false, [], [])).2.1, (x4.getD x3.toNat (false, [], [])).2.2) x ∧ Sem.QV ((List.getD (g.getD x3.toNat []) (Int.toNat (x6.getD 1 0)) (false, [], [])).1, (List.getD (g.getD x3.toNat []) (Int.toNat (x6.getD 1 0)) (false, [], [])).2.1, (List.getD (g.getD x3.toNat []) (Int.toNat (x6.getD 1 0)) (false, [], [])).2.2) y ∧ Sz 4000000000 x ∧ Sz 4000000000 y ∧ ∀ (r : Bool × List Int × List Int), Sem.QV r (x + y) → bif decide (0 ≤ x3) && decide (x3 < (↑x4.length : Int)) then GoodL Tryz.prog n0 27 K (headAt (fnT Tryz.f27) 6) (rsums_s6_0 g l x0 x1 x2 (IntKind.i64.wrap (x3 + 1)) (x4.set x3.toNat (r.1, r.2.1, r.2.2)) x5 x6) else False else False else False else False else False else GoodL Tryz.prog n0 27 K (headAt (fnT Tryz.f27) 11) (rsums_s11_0 g l x0 x1 (↑x5.length : Int) 0 x4 x5 x6)) := by kernel_rfl
set_option maxRecDepth 1000000 in
theorem rsums_s11_0_E (g : List (List (Bool × List Int × List Int))) (l : List (Int × Int)) (x0 : Int) (x1 : Int) (x2 : Int) (x3 : Int) (x4 : List (Bool × List Int × List Int)) (x5 : List (Bool × List Int × List Int)) (x6 : List Int) (n0 : Nat) (K : AV → List HObj → Prop) :
    execN tab (mixE tab conG1 [] 400) (maskN rsums_live rsums_nils (GoodL Tryz.prog n0 27 K)) (finK tab (fnT Tryz.f27).res K) 400 (roundAt (fnT Tryz.f27) 11) (rsums_s11_0 g l x0 x1 x2 x3 x4 x5 x6) =
    (bif decide (x3 < x2) then bif decide (0 ≤ x3) && decide (x3 < (↑x5.length : Int)) then bif Nat.beq 2 x6.length && decide (0 < (↑x6.length : Int)) then bif decide (0 ≤ x6.getD 0 0) && decide (x6.getD 0 0 < (↑g.length : Int)) then bif decide (0 ≤ x3) && decide (x3 < (↑(List.length (g.getD (Int.toNat (x6.getD 0 0)) [])) : Int)) then ∃ x y, Sem.QV ((x5.getD x3.toNat (false, [], [])).1, (x5.getD x3.toNat (false, [], [])).2.1, (x5.getD x3.toNat (false, [], [])).2.2) x ∧ Sem.QV ((List.getD (g.getD (Int.toNat (x6.getD 0 0)) []) x3.toNat (false, [], [])).1, (List.getD (g.getD (Int.toNat (x6.getD 0 0)) []) x3.toNat (false, [], [])).2.1, (List.getD (g.getD (Int.toNat (x6.getD 0 0)) []) x3.toNat (false, [], [])).2.2) y ∧ Sz 4000000000 x ∧ Sz 4000000000 y ∧ ∀ (r : Bool × List Int × List Int), Sem.QV r (x + y) → bif decide (0 ≤ x3) && decide (x3 < (↑x5.length : Int)) then GoodL Tryz.prog n0 27 K (headAt (fnT Tryz.f27) 11) (rsums_s11_0 g l x0 x1 x2 (IntKind.i64.wrap (x3 + 1)) x4 (x5.set x3.toNat (r.1, r.2.1, r.2.2)) x6) else False else False else False else False else False else GoodL Tryz.prog n0 27 K (headAt (fnT Tryz.f27) 3) (rsums_s3_0 g l x0 (IntKind.i64.wrap (x1 + 1)) x4 x5)) := by kernel_rfl
def rregs_live : List (Nat × List Nat) := [(7, [1, 8, 9, 27, 28, 29]), (13, [9, 12, 13, 52, 53]), (18, [9, 12, 13, 67, 68])]
def rregs_nils : List (Nat × ETy) := [(8, ETy.one (CTy.slice (ETy.more CTy.bool (ETy.more (CTy.slice (ETy.one (CTy.int IntKind.u32))) (ETy.one (CTy.slice (ETy.one (CTy.int IntKind.u32)))))))), (27, ETy.more (CTy.int IntKind.i64) (ETy.one (CTy.int IntKind.i64))), (12, ETy.more CTy.bool (ETy.more (CTy.slice (ETy.one (CTy.int IntKind.u32))) (ETy.one (CTy.slice (ETy.one (CTy.int IntKind.u32)))))), (13, ETy.more CTy.bool (ETy.more (CTy.slice (ETy.one (CTy.int IntKind.u32))) (ETy.one (CTy.slice (ETy.one (CTy.int IntKind.u32))))))]
noncomputable def rregs_s7_0 (m : List (List ByteArray)) (l : List (Int × Int)) (x0 : Int) (x1 : Int) (x2 : List (List (Bool × List Int × List Int))) : St := stOf 99 [(1, AV.imm (ETy.more (CTy.int IntKind.i64) (ETy.one (CTy.int IntKind.i64))) l), (8, AV.own 0), (9, AV.ptr 1 0), (27, AV.imm (ETy.more (CTy.int IntKind.i64) (ETy.one (CTy.int IntKind.i64))) l), (28, AV.int IntKind.i64 x0), (29, AV.int IntKind.i64 x1)] [HObj.typed (ETy.one (CTy.slice (ETy.more CTy.bool (ETy.more (CTy.slice (ETy.one (CTy.int IntKind.u32))) (ETy.one (CTy.slice (ETy.one (CTy.int IntKind.u32)))))))) x2 false, HObj.box [AV.bool false, AV.nils, AV.nils]]
noncomputable def rregs_s7_1 (m : List (List ByteArray)) (l : List (Int × Int)) (x0 : Int) (x1 : Int) (x2 : List (List (Bool × List Int × List Int))) (x3 : Bool) (x4 : List Int) (x5 : List Int) : St := stOf 99 [(1, AV.imm (ETy.more (CTy.int IntKind.i64) (ETy.one (CTy.int IntKind.i64))) l), (8, AV.own 0), (9, AV.ptr 1 0), (27, AV.imm (ETy.more (CTy.int IntKind.i64) (ETy.one (CTy.int IntKind.i64))) l), (28, AV.int IntKind.i64 x0), (29, AV.int IntKind.i64 x1)] [HObj.typed (ETy.one (CTy.slice (ETy.more CTy.bool (ETy.more (CTy.slice (ETy.one (CTy.int IntKind.u32))) (ETy.one (CTy.slice (ETy.one (CTy.int IntKind.u32)))))))) x2 false, HObj.box [AV.bool x3, AV.imm (ETy.one (CTy.int IntKind.u32)) x4, AV.imm (ETy.one (CTy.int IntKind.u32)) x5]]
noncomputable def rregs_s13_1 (m : List (List ByteArray)) (l : List (Int × Int)) (x0 : Int) (x1 : Int) (x2 : Bool) (x3 : List Int) (x4 : List Int) (x5 : List (Bool × List Int × List Int)) (x6 : List (Bool × List Int × List Int)) : St := stOf 99 [(9, AV.ptr 0 0), (12, AV.own 1), (13, AV.own 2), (52, AV.int IntKind.i64 x0), (53, AV.int IntKind.i64 x1)] [HObj.box [AV.bool x2, AV.imm (ETy.one (CTy.int IntKind.u32)) x3, AV.imm (ETy.one (CTy.int IntKind.u32)) x4], HObj.typed (ETy.more CTy.bool (ETy.more (CTy.slice (ETy.one (CTy.int IntKind.u32))) (ETy.one (CTy.slice (ETy.one (CTy.int IntKind.u32)))))) x5 false, HObj.typed (ETy.more CTy.bool (ETy.more (CTy.slice (ETy.one (CTy.int IntKind.u32))) (ETy.one (CTy.slice (ETy.one (CTy.int IntKind.u32)))))) x6 false]
noncomputable def rregs_s18_1 (m : List (List ByteArray)) (l : List (Int × Int)) (x0 : Int) (x1 : Int) (x2 : Bool) (x3 : List Int) (x4 : List Int) (x5 : List (Bool × List Int × List Int)) (x6 : List (Bool × List Int × List Int)) : St := stOf 99 [(9, AV.ptr 0 0), (12, AV.own 1), (13, AV.own 2), (67, AV.int IntKind.i64 x0), (68, AV.int IntKind.i64 x1)] [HObj.box [AV.bool x2, AV.imm (ETy.one (CTy.int IntKind.u32)) x3, AV.imm (ETy.one (CTy.int IntKind.u32)) x4], HObj.typed (ETy.more CTy.bool (ETy.more (CTy.slice (ETy.one (CTy.int IntKind.u32))) (ETy.one (CTy.slice (ETy.one (CTy.int IntKind.u32)))))) x5 false, HObj.typed (ETy.more CTy.bool (ETy.more (CTy.slice (ETy.one (CTy.int IntKind.u32))) (ETy.one (CTy.slice (ETy.one (CTy.int IntKind.u32)))))) x6 false]
set_option maxRecDepth 1000000 in
theorem rregs_E (m : List (List ByteArray)) (l : List (Int × Int)) (n0 : Nat) (K : AV → List HObj → Prop) :
    execN tab (mixE tab conG2 [] 400) (maskN rregs_live rregs_nils (GoodL Tryz.prog n0 7 K)) (finK tab (fnT Tryz.f7).res K) 400 [.code (fnT Tryz.f7).body] ⟨initEnv (fnT Tryz.f7).n [AV.imm (ETy.one (CTy.slice (ETy.one CTy.str))) m, AV.imm (ETy.more (CTy.int IntKind.i64) (ETy.one (CTy.int IntKind.i64))) l], []⟩ =
    ((TxM m ∧ TxP l.length) ∧ bif !decide (histErr m l = 0) then K (AV.tup [AV.nils, AV.nils, AV.int IntKind.i64 (histErr m l)]) [] else matErr m = 0 ∧ ∀ (g : List (List QT)), GF g m.length (wide m) (ent m) → GoodL Tryz.prog n0 7 K (headAt (fnT Tryz.f7) 7) (rregs_s7_0 m l (↑l.length : Int) 0 g)) := by kernel_rfl
set_option maxRecDepth 1000000 in
theorem rregs_s7_1_E (m : List (List ByteArray)) (l : List (Int × Int)) (x0 : Int) (x1 : Int) (x2 : List (List (Bool × List Int × List Int))) (x3 : Bool) (x4 : List Int) (x5 : List Int) (n0 : Nat) (K : AV → List HObj → Prop) :
    execN tab (mixE tab conG2 [] 400) (maskN rregs_live rregs_nils (GoodL Tryz.prog n0 7 K)) (finK tab (fnT Tryz.f7).res K) 400 (roundAt (fnT Tryz.f7) 7) (rregs_s7_1 m l x0 x1 x2 x3 x4 x5) =
    (bif decide (x1 < x0) then bif decide (0 ≤ x1) && decide (x1 < (↑l.length : Int)) then bif decide (0 ≤ [(l.getD x1.toNat (0, 0)).1, (l.getD x1.toNat (0, 0)).2].getD 0 0) && decide ([(l.getD x1.toNat (0, 0)).1, (l.getD x1.toNat (0, 0)).2].getD 0 0 < (↑x2.length : Int)) then bif decide (0 ≤ [(l.getD x1.toNat (0, 0)).1, (l.getD x1.toNat (0, 0)).2].getD 1 0) && decide ([(l.getD x1.toNat (0, 0)).1, (l.getD x1.toNat (0, 0)).2].getD 1 0 < (↑(List.length (x2.getD (Int.toNat ([(l.getD x1.toNat (0, 0)).1, (l.getD x1.toNat (0, 0)).2].getD 0 0)) [])) : Int)) then ∃ x y, Sem.QV (x3, x4, x5) x ∧ Sem.QV ((List.getD (x2.getD (Int.toNat ([(l.getD x1.toNat (0, 0)).1, (l.getD x1.toNat (0, 0)).2].getD 0 0)) []) (Int.toNat ([(l.getD x1.toNat (0, 0)).1, (l.getD x1.toNat (0, 0)).2].getD 1 0)) (false, [], [])).1, (List.getD (x2.getD (Int.toNat ([(l.getD x1.toNat (0, 0)).1, (l.getD x1.toNat (0, 0)).2].getD 0 0)) []) (Int.toNat ([(l.getD x1.toNat (0, 0)).1, (l.getD x1.toNat (0, 0)).2].getD 1 0)) (false, [], [])).2.1, (List.getD (x2.getD (Int.toNat ([(l.getD x1.toNat (0, 0)).1, (l.getD x1.toNat (0, 0)).2].getD 0 0)) []) (Int.toNat ([(l.getD x1.toNat (0, 0)).1, (l.getD x1.toNat (0, 0)).2].getD 1 0)) (false, [], [])).2.2) y ∧ Sz 4000000000 x ∧ Sz 4000000000 y ∧ ∀ (r : Bool × List Int × List Int), Sem.QV r (x + y) → GoodL Tryz.prog n0 7 K (headAt (fnT Tryz.f7) 7) (rregs_s7_1 m l x0 (IntKind.i64.wrap (x1 + 1)) x2 r.1 r.2.1 r.2.2) else False else False else False else ∃ n w F, Rounds x2 l n w F ∧ ∀ (zr zc : List QT), QF zr n (rowsQ F l l.length) → QF zc w (colsQ F l l.length) → GoodL Tryz.prog n0 7 K (headAt (fnT Tryz.f7) 13) (rregs_s13_1 m l (↑zr.length : Int) 0 x3 x4 x5 zr zc)) := by kernel_rfl
set_option maxRecDepth 1000000 in
theorem rregs_s13_1_E (m : List (List ByteArray)) (l : List (Int × Int)) (x0 : Int) (x1 : Int) (x2 : Bool) (x3 : List Int) (x4 : List Int) (x5 : List (Bool × List Int × List Int)) (x6 : List (Bool × List Int × List Int)) (n0 : Nat) (K : AV → List HObj → Prop) :
    execN tab (mixE tab conG2 [] 400) (maskN rregs_live rregs_nils (GoodL Tryz.prog n0 7 K)) (finK tab (fnT Tryz.f7).res K) 400 (roundAt (fnT Tryz.f7) 13) (rregs_s13_1 m l x0 x1 x2 x3 x4 x5 x6) =
    (bif decide (x1 < x0) then bif decide (0 ≤ x1) && decide (x1 < (↑x5.length : Int)) then ∃ x y, Sem.QV ((x5.getD x1.toNat (false, [], [])).1, (x5.getD x1.toNat (false, [], [])).2.1, (x5.getD x1.toNat (false, [], [])).2.2) x ∧ Sem.QV (x2, x3, x4) y ∧ Sz 4000000000 x ∧ Sz 4000000000 y ∧ ∀ (r : Bool × List Int × List Int), Sem.QV r (x - y) → bif decide (0 ≤ x1) && decide (x1 < (↑x5.length : Int)) then GoodL Tryz.prog n0 7 K (headAt (fnT Tryz.f7) 13) (rregs_s13_1 m l x0 (IntKind.i64.wrap (x1 + 1)) x2 x3 x4 (x5.set x1.toNat (r.1, r.2.1, r.2.2)) x6) else False else False else GoodL Tryz.prog n0 7 K (headAt (fnT Tryz.f7) 18) (rregs_s18_1 m l (↑x6.length : Int) 0 x2 x3 x4 x5 x6)) := by kernel_rfl
set_option maxRecDepth 1000000 in
theorem rregs_s18_1_E (m : List (List ByteArray)) (l : List (Int × Int)) (x0 : Int) (x1 : Int) (x2 : Bool) (x3 : List Int) (x4 : List Int) (x5 : List (Bool × List Int × List Int)) (x6 : List (Bool × List Int × List Int)) (n0 : Nat) (K : AV → List HObj → Prop) :
    execN tab (mixE tab conG2 [] 400) (maskN rregs_live rregs_nils (GoodL Tryz.prog n0 7 K)) (finK tab (fnT Tryz.f7).res K) 400 (roundAt (fnT Tryz.f7) 18) (rregs_s18_1 m l x0 x1 x2 x3 x4 x5 x6) =
    (bif decide (x1 < x0) then bif decide (0 ≤ x1) && decide (x1 < (↑x6.length : Int)) then ∃ x y, Sem.QV (x2, x3, x4) x ∧ Sem.QV ((x6.getD x1.toNat (false, [], [])).1, (x6.getD x1.toNat (false, [], [])).2.1, (x6.getD x1.toNat (false, [], [])).2.2) y ∧ Sz 4000000000 x ∧ Sz 4000000000 y ∧ ∀ (r : Bool × List Int × List Int), Sem.QV r (x - y) → bif decide (0 ≤ x1) && decide (x1 < (↑x6.length : Int)) then GoodL Tryz.prog n0 7 K (headAt (fnT Tryz.f7) 18) (rregs_s18_1 m l x0 (IntKind.i64.wrap (x1 + 1)) x2 x3 x4 x5 (x6.set x1.toNat (r.1, r.2.1, r.2.2))) else False else False else ∃ n f, QF x5 n f ∧ TxN n ∧ SzF 9000000000 n f ∧ bif !decide (vecE n f = 0) then K (AV.tup [AV.nils, AV.nils, AV.int IntKind.i64 (vecE n f)]) [HObj.box [AV.bool x2, AV.imm (ETy.one (CTy.int IntKind.u32)) x3, AV.imm (ETy.one (CTy.int IntKind.u32)) x4], HObj.typed (ETy.more CTy.bool (ETy.more (CTy.slice (ETy.one (CTy.int IntKind.u32))) (ETy.one (CTy.slice (ETy.one (CTy.int IntKind.u32)))))) x5 true, HObj.typed (ETy.more CTy.bool (ETy.more (CTy.slice (ETy.one (CTy.int IntKind.u32))) (ETy.one (CTy.slice (ETy.one (CTy.int IntKind.u32)))))) x6 false] else ∃ n_1 f_1, QF x6 n_1 f_1 ∧ TxN n_1 ∧ SzF 9000000000 n_1 f_1 ∧ bif !decide (vecE n_1 f_1 = 0) then K (AV.tup [AV.nils, AV.nils, AV.int IntKind.i64 (vecE n_1 f_1)]) [HObj.box [AV.bool x2, AV.imm (ETy.one (CTy.int IntKind.u32)) x3, AV.imm (ETy.one (CTy.int IntKind.u32)) x4], HObj.typed (ETy.more CTy.bool (ETy.more (CTy.slice (ETy.one (CTy.int IntKind.u32))) (ETy.one (CTy.slice (ETy.one (CTy.int IntKind.u32)))))) x5 true, HObj.typed (ETy.more CTy.bool (ETy.more (CTy.slice (ETy.one (CTy.int IntKind.u32))) (ETy.one (CTy.slice (ETy.one (CTy.int IntKind.u32)))))) x6 true] else K (AV.tup [AV.imm (ETy.one CTy.str) (vecV n f), AV.imm (ETy.one CTy.str) (vecV n_1 f_1), AV.int IntKind.i64 0]) [HObj.box [AV.bool x2, AV.imm (ETy.one (CTy.int IntKind.u32)) x3, AV.imm (ETy.one (CTy.int IntKind.u32)) x4], HObj.typed (ETy.more CTy.bool (ETy.more (CTy.slice (ETy.one (CTy.int IntKind.u32))) (ETy.one (CTy.slice (ETy.one (CTy.int IntKind.u32)))))) x5 true, HObj.typed (ETy.more CTy.bool (ETy.more (CTy.slice (ETy.one (CTy.int IntKind.u32))) (ETy.one (CTy.slice (ETy.one (CTy.int IntKind.u32)))))) x6 true]) := by kernel_rfl
def rmatch_live : List (Nat × List Nat) := [(11, [5, 6, 25, 26, 27]), (19, [5, 6, 9, 47, 48]), (26, [5, 9, 64, 65])]
def rmatch_nils : List (Nat × ETy) := [(5, ETy.more CTy.bool (ETy.more (CTy.slice (ETy.one (CTy.int IntKind.u32))) (ETy.one (CTy.slice (ETy.one (CTy.int IntKind.u32)))))), (25, ETy.more CTy.bool (ETy.more (CTy.slice (ETy.one (CTy.int IntKind.u32))) (ETy.one (CTy.slice (ETy.one (CTy.int IntKind.u32))))))]
noncomputable def rmatch_s11_0 (v : List ByteArray) (x0 : Int) (x1 : Int) (x2 : List (Bool × List Int × List Int)) : St := stOf 82 [(5, AV.own 0), (6, AV.bool true), (25, AV.own 0), (26, AV.int IntKind.i64 x0), (27, AV.int IntKind.i64 x1)] [HObj.typed (ETy.more CTy.bool (ETy.more (CTy.slice (ETy.one (CTy.int IntKind.u32))) (ETy.one (CTy.slice (ETy.one (CTy.int IntKind.u32)))))) x2 false]
noncomputable def rmatch_s11_1 (v : List ByteArray) (x0 : Bool) (x1 : Int) (x2 : Int) (x3 : List (Bool × List Int × List Int)) : St := stOf 82 [(5, AV.own 0), (6, AV.bool x0), (25, AV.own 0), (26, AV.int IntKind.i64 x1), (27, AV.int IntKind.i64 x2)] [HObj.typed (ETy.more CTy.bool (ETy.more (CTy.slice (ETy.one (CTy.int IntKind.u32))) (ETy.one (CTy.slice (ETy.one (CTy.int IntKind.u32)))))) x3 false]
noncomputable def rmatch_s11_2 (v : List ByteArray) (x0 : Int) (x1 : Int) (x2 : List (Bool × List Int × List Int)) : St := stOf 82 [(5, AV.own 0), (6, AV.bool false), (25, AV.own 0), (26, AV.int IntKind.i64 x0), (27, AV.int IntKind.i64 x1)] [HObj.typed (ETy.more CTy.bool (ETy.more (CTy.slice (ETy.one (CTy.int IntKind.u32))) (ETy.one (CTy.slice (ETy.one (CTy.int IntKind.u32)))))) x2 false]
noncomputable def rmatch_s19_1 (v : List ByteArray) (x0 : Bool) (x1 : Int) (x2 : Int) (x3 : List (Bool × List Int × List Int)) : St := stOf 82 [(5, AV.own 0), (6, AV.bool x0), (9, AV.ptr 1 0), (47, AV.int IntKind.i64 x1), (48, AV.int IntKind.i64 x2)] [HObj.typed (ETy.more CTy.bool (ETy.more (CTy.slice (ETy.one (CTy.int IntKind.u32))) (ETy.one (CTy.slice (ETy.one (CTy.int IntKind.u32)))))) x3 false, HObj.box [AV.bool false, AV.nils, AV.nils]]
noncomputable def rmatch_s19_4 (v : List ByteArray) (x0 : Bool) (x1 : Int) (x2 : Int) (x3 : List (Bool × List Int × List Int)) (x4 : Bool) (x5 : List Int) (x6 : List Int) : St := stOf 82 [(5, AV.own 0), (6, AV.bool x0), (9, AV.ptr 1 0), (47, AV.int IntKind.i64 x1), (48, AV.int IntKind.i64 x2)] [HObj.typed (ETy.more CTy.bool (ETy.more (CTy.slice (ETy.one (CTy.int IntKind.u32))) (ETy.one (CTy.slice (ETy.one (CTy.int IntKind.u32)))))) x3 false, HObj.box [AV.bool x4, AV.imm (ETy.one (CTy.int IntKind.u32)) x5, AV.imm (ETy.one (CTy.int IntKind.u32)) x6]]
noncomputable def rmatch_s26_1 (v : List ByteArray) (x0 : Int) (x1 : Int) (x2 : List (Bool × List Int × List Int)) (x3 : Bool) (x4 : List Int) (x5 : List Int) : St := stOf 82 [(5, AV.own 0), (9, AV.ptr 1 0), (64, AV.int IntKind.i64 x0), (65, AV.int IntKind.i64 x1)] [HObj.typed (ETy.more CTy.bool (ETy.more (CTy.slice (ETy.one (CTy.int IntKind.u32))) (ETy.one (CTy.slice (ETy.one (CTy.int IntKind.u32)))))) x2 false, HObj.box [AV.bool x3, AV.imm (ETy.one (CTy.int IntKind.u32)) x4, AV.imm (ETy.one (CTy.int IntKind.u32)) x5]]
set_option maxRecDepth 1000000 in
theorem rmatch_E (v : List ByteArray) (n0 : Nat) (K : AV → List HObj → Prop) :
    execN tab (mixE tab conG1 [] 400) (maskN rmatch_live rmatch_nils (GoodL Tryz.prog n0 13 K)) (finK tab (fnT Tryz.f13).res K) 400 [.code (fnT Tryz.f13).body] ⟨initEnv (fnT Tryz.f13).n [AV.imm (ETy.one CTy.str) v], []⟩ =
    (bif decide ((↑v.length : Int) = 0) then K (AV.tup [AV.nils, AV.int IntKind.i64 8]) [] else bif decide ((↑v.length : Int) > 12) then K (AV.tup [AV.nils, AV.int IntKind.i64 2]) [] else TxL v ∧ bif !decide (vecErr v = 0) then K (AV.tup [AV.nils, AV.int IntKind.i64 (vecErr v)]) [] else (ratErrs v = 0 ∧ TxN v.length) ∧ ∀ (zs : List QT), QF zs v.length (vent v) → GoodL Tryz.prog n0 13 K (headAt (fnT Tryz.f13) 11) (rmatch_s11_0 v (↑zs.length : Int) 0 zs)) := by kernel_rfl
set_option maxRecDepth 1000000 in
theorem rmatch_s11_1_E (v : List ByteArray) (x0 : Bool) (x1 : Int) (x2 : Int) (x3 : List (Bool × List Int × List Int)) (n0 : Nat) (K : AV → List HObj → Prop) :
    execN tab (mixE tab conG1 [] 400) (maskN rmatch_live rmatch_nils (GoodL Tryz.prog n0 13 K)) (finK tab (fnT Tryz.f13).res K) 400 (roundAt (fnT Tryz.f13) 11) (rmatch_s11_1 v x0 x1 x2 x3) =
    (bif decide (x2 < x1) then bif decide (0 ≤ x2) && decide (x2 < (↑x3.length : Int)) then ∃ q, Sem.QV ((x3.getD x2.toNat (false, [], [])).1, (x3.getD x2.toNat (false, [], [])).2.1, (x3.getD x2.toNat (false, [], [])).2.2) q ∧ bif decide (Sem.sgn q < 0) then bif decide (0 ≤ x2) && decide (x2 < (↑x3.length : Int)) then bif x0 then ∃ q, Sem.QV ((x3.getD x2.toNat (false, [], [])).1, (x3.getD x2.toNat (false, [], [])).2.1, (x3.getD x2.toNat (false, [], [])).2.2) q ∧ GoodL Tryz.prog n0 13 K (headAt (fnT Tryz.f13) 11) (rmatch_s11_1 v (bif true then decide (Sem.sgn q ≤ 0) else false) x1 (IntKind.i64.wrap (x2 + 1)) (x3.set x2.toNat (false, [], []))) else GoodL Tryz.prog n0 13 K (headAt (fnT Tryz.f13) 11) (rmatch_s11_2 v x1 (IntKind.i64.wrap (x2 + 1)) (x3.set x2.toNat (false, [], []))) else False else bif x0 then ∃ q, Sem.QV ((x3.getD x2.toNat (false, [], [])).1, (x3.getD x2.toNat (false, [], [])).2.1, (x3.getD x2.toNat (false, [], [])).2.2) q ∧ GoodL Tryz.prog n0 13 K (headAt (fnT Tryz.f13) 11) (rmatch_s11_1 v (bif true then decide (Sem.sgn q ≤ 0) else false) x1 (IntKind.i64.wrap (x2 + 1)) x3) else GoodL Tryz.prog n0 13 K (headAt (fnT Tryz.f13) 11) (rmatch_s11_2 v x1 (IntKind.i64.wrap (x2 + 1)) x3) else False else GoodL Tryz.prog n0 13 K (headAt (fnT Tryz.f13) 19) (rmatch_s19_1 v x0 (↑x3.length : Int) 0 x3)) := by kernel_rfl
set_option maxRecDepth 1000000 in
theorem rmatch_s19_4_E (v : List ByteArray) (x0 : Bool) (x1 : Int) (x2 : Int) (x3 : List (Bool × List Int × List Int)) (x4 : Bool) (x5 : List Int) (x6 : List Int) (n0 : Nat) (K : AV → List HObj → Prop) :
    execN tab (mixE tab conG1 [] 400) (maskN rmatch_live rmatch_nils (GoodL Tryz.prog n0 13 K)) (finK tab (fnT Tryz.f13).res K) 400 (roundAt (fnT Tryz.f13) 19) (rmatch_s19_4 v x0 x1 x2 x3 x4 x5 x6) =
    (bif decide (x2 < x1) then bif x0 then I64m 1 ∧ ∀ (r : Bool × List Int × List Int), Sem.QV r (↑1 : Rat) → bif decide (0 ≤ x2) && decide (x2 < (↑x3.length : Int)) then bif decide (0 ≤ x2) && decide (x2 < (↑(x3.set x2.toNat (r.1, r.2.1, r.2.2)).length : Int)) then ∃ x y, Sem.QV (x4, x5, x6) x ∧ Sem.QV (((x3.set x2.toNat (r.1, r.2.1, r.2.2)).getD x2.toNat (false, [], [])).1, ((x3.set x2.toNat (r.1, r.2.1, r.2.2)).getD x2.toNat (false, [], [])).2.1, ((x3.set x2.toNat (r.1, r.2.1, r.2.2)).getD x2.toNat (false, [], [])).2.2) y ∧ Sz 4000000000 x ∧ Sz 4000000000 y ∧ ∀ (r_1 : Bool × List Int × List Int), Sem.QV r_1 (x + y) → GoodL Tryz.prog n0 13 K (headAt (fnT Tryz.f13) 19) (rmatch_s19_4 v x0 x1 (IntKind.i64.wrap (x2 + 1)) (x3.set x2.toNat (r.1, r.2.1, r.2.2)) r_1.1 r_1.2.1 r_1.2.2) else False else False else bif decide (0 ≤ x2) && decide (x2 < (↑x3.length : Int)) then ∃ x y, Sem.QV (x4, x5, x6) x ∧ Sem.QV ((x3.getD x2.toNat (false, [], [])).1, (x3.getD x2.toNat (false, [], [])).2.1, (x3.getD x2.toNat (false, [], [])).2.2) y ∧ Sz 4000000000 x ∧ Sz 4000000000 y ∧ ∀ (r : Bool × List Int × List Int), Sem.QV r (x + y) → GoodL Tryz.prog n0 13 K (headAt (fnT Tryz.f13) 19) (rmatch_s19_4 v x0 x1 (IntKind.i64.wrap (x2 + 1)) x3 r.1 r.2.1 r.2.2) else False else GoodL Tryz.prog n0 13 K (headAt (fnT Tryz.f13) 26) (rmatch_s26_1 v (↑x3.length : Int) 0 x3 x4 x5 x6)) := by kernel_rfl
set_option maxRecDepth 1000000 in
theorem rmatch_s26_1_E (v : List ByteArray) (x0 : Int) (x1 : Int) (x2 : List (Bool × List Int × List Int)) (x3 : Bool) (x4 : List Int) (x5 : List Int) (n0 : Nat) (K : AV → List HObj → Prop) :
    execN tab (mixE tab conG1 [] 400) (maskN rmatch_live rmatch_nils (GoodL Tryz.prog n0 13 K)) (finK tab (fnT Tryz.f13).res K) 400 (roundAt (fnT Tryz.f13) 26) (rmatch_s26_1 v x0 x1 x2 x3 x4 x5) =
    (bif decide (x1 < x0) then bif decide (0 ≤ x1) && decide (x1 < (↑x2.length : Int)) then ∃ x y, Sem.QV ((x2.getD x1.toNat (false, [], [])).1, (x2.getD x1.toNat (false, [], [])).2.1, (x2.getD x1.toNat (false, [], [])).2.2) x ∧ Sem.QV (x3, x4, x5) y ∧ Sz 4000000000 x ∧ Sz 4000000000 y ∧ ∀ (r : Bool × List Int × List Int), Sem.QV r (x / y) → bif decide (0 ≤ x1) && decide (x1 < (↑x2.length : Int)) then GoodL Tryz.prog n0 13 K (headAt (fnT Tryz.f13) 26) (rmatch_s26_1 v x0 (IntKind.i64.wrap (x1 + 1)) (x2.set x1.toNat (r.1, r.2.1, r.2.2)) x3 x4 x5) else False else False else ∃ n f, QF x2 n f ∧ TxN n ∧ SzF 9000000000 n f ∧ K (AV.tup [AV.imm (ETy.one CTy.str) (vecV n f), AV.int IntKind.i64 (vecE n f)]) [HObj.typed (ETy.more CTy.bool (ETy.more (CTy.slice (ETy.one (CTy.int IntKind.u32))) (ETy.one (CTy.slice (ETy.one (CTy.int IntKind.u32)))))) x2 true, HObj.box [AV.bool x3, AV.imm (ETy.one (CTy.int IntKind.u32)) x4, AV.imm (ETy.one (CTy.int IntKind.u32)) x5]]) := by kernel_rfl
def rplay_live : List (Nat × List Nat) := [(10, [7, 8, 9, 10, 39, 40]), (13, [7, 8, 9, 10, 11, 39, 40, 42, 43, 44]), (19, [7, 8, 9, 10, 11, 39, 40, 60, 61, 62]), (25, [7, 8, 9, 10, 11, 39, 40, 79, 80]), (30, [7, 8, 9, 10, 11, 39, 40, 101, 102])]
def rplay_nils : List (Nat × ETy) := [(7, ETy.one (CTy.slice (ETy.more CTy.bool (ETy.more (CTy.slice (ETy.one (CTy.int IntKind.u32))) (ETy.one (CTy.slice (ETy.one (CTy.int IntKind.u32)))))))), (8, ETy.more CTy.bool (ETy.more (CTy.slice (ETy.one (CTy.int IntKind.u32))) (ETy.one (CTy.slice (ETy.one (CTy.int IntKind.u32)))))), (9, ETy.more CTy.bool (ETy.more (CTy.slice (ETy.one (CTy.int IntKind.u32))) (ETy.one (CTy.slice (ETy.one (CTy.int IntKind.u32)))))), (10, ETy.more (CTy.int IntKind.i64) (ETy.one (CTy.int IntKind.i64))), (42, ETy.more CTy.bool (ETy.more (CTy.slice (ETy.one (CTy.int IntKind.u32))) (ETy.one (CTy.slice (ETy.one (CTy.int IntKind.u32)))))), (60, ETy.more CTy.bool (ETy.more (CTy.slice (ETy.one (CTy.int IntKind.u32))) (ETy.one (CTy.slice (ETy.one (CTy.int IntKind.u32))))))]
noncomputable def rplay_s10_0 (m : List (List ByteArray)) (n : Int) (x0 : Int) (x1 : List (List (Bool × List Int × List Int))) (x2 : List (Bool × List Int × List Int)) (x3 : List (Bool × List Int × List Int)) (x4 : List (Int × Int)) : St := stOf 128 [(7, AV.own 0), (8, AV.own 1), (9, AV.own 2), (10, AV.own 3), (39, AV.int IntKind.i64 n), (40, AV.int IntKind.i64 x0)] [HObj.typed (ETy.one (CTy.slice (ETy.more CTy.bool (ETy.more (CTy.slice (ETy.one (CTy.int IntKind.u32))) (ETy.one (CTy.slice (ETy.one (CTy.int IntKind.u32)))))))) x1 false, HObj.typed (ETy.more CTy.bool (ETy.more (CTy.slice (ETy.one (CTy.int IntKind.u32))) (ETy.one (CTy.slice (ETy.one (CTy.int IntKind.u32)))))) x2 false, HObj.typed (ETy.more CTy.bool (ETy.more (CTy.slice (ETy.one (CTy.int IntKind.u32))) (ETy.one (CTy.slice (ETy.one (CTy.int IntKind.u32)))))) x3 false, HObj.typed (ETy.more (CTy.int IntKind.i64) (ETy.one (CTy.int IntKind.i64))) x4 false]
noncomputable def rplay_s13_0 (m : List (List ByteArray)) (n : Int) (x0 : Int) (x1 : Int) (x2 : Int) (x3 : List (List (Bool × List Int × List Int))) (x4 : List (Bool × List Int × List Int)) (x5 : List (Bool × List Int × List Int)) (x6 : List (Int × Int)) (x7 : List Int) : St := stOf 128 [(7, AV.own 0), (8, AV.own 1), (9, AV.own 2), (10, AV.own 3), (11, AV.parr 4), (39, AV.int IntKind.i64 n), (40, AV.int IntKind.i64 x0), (42, AV.own 1), (43, AV.int IntKind.i64 x1), (44, AV.int IntKind.i64 x2)] [HObj.typed (ETy.one (CTy.slice (ETy.more CTy.bool (ETy.more (CTy.slice (ETy.one (CTy.int IntKind.u32))) (ETy.one (CTy.slice (ETy.one (CTy.int IntKind.u32)))))))) x3 false, HObj.typed (ETy.more CTy.bool (ETy.more (CTy.slice (ETy.one (CTy.int IntKind.u32))) (ETy.one (CTy.slice (ETy.one (CTy.int IntKind.u32)))))) x4 false, HObj.typed (ETy.more CTy.bool (ETy.more (CTy.slice (ETy.one (CTy.int IntKind.u32))) (ETy.one (CTy.slice (ETy.one (CTy.int IntKind.u32)))))) x5 false, HObj.typed (ETy.more (CTy.int IntKind.i64) (ETy.one (CTy.int IntKind.i64))) x6 false, HObj.typed (ETy.one (CTy.int IntKind.i64)) x7 false]
noncomputable def rplay_s19_0 (m : List (List ByteArray)) (n : Int) (x0 : Int) (x1 : Int) (x2 : Int) (x3 : List (List (Bool × List Int × List Int))) (x4 : List (Bool × List Int × List Int)) (x5 : List (Bool × List Int × List Int)) (x6 : List (Int × Int)) (x7 : List Int) : St := stOf 128 [(7, AV.own 0), (8, AV.own 1), (9, AV.own 2), (10, AV.own 3), (11, AV.parr 4), (39, AV.int IntKind.i64 n), (40, AV.int IntKind.i64 x0), (60, AV.own 2), (61, AV.int IntKind.i64 x1), (62, AV.int IntKind.i64 x2)] [HObj.typed (ETy.one (CTy.slice (ETy.more CTy.bool (ETy.more (CTy.slice (ETy.one (CTy.int IntKind.u32))) (ETy.one (CTy.slice (ETy.one (CTy.int IntKind.u32)))))))) x3 false, HObj.typed (ETy.more CTy.bool (ETy.more (CTy.slice (ETy.one (CTy.int IntKind.u32))) (ETy.one (CTy.slice (ETy.one (CTy.int IntKind.u32)))))) x4 false, HObj.typed (ETy.more CTy.bool (ETy.more (CTy.slice (ETy.one (CTy.int IntKind.u32))) (ETy.one (CTy.slice (ETy.one (CTy.int IntKind.u32)))))) x5 false, HObj.typed (ETy.more (CTy.int IntKind.i64) (ETy.one (CTy.int IntKind.i64))) x6 false, HObj.typed (ETy.one (CTy.int IntKind.i64)) x7 false]
noncomputable def rplay_s25_0 (m : List (List ByteArray)) (n : Int) (x0 : Int) (x1 : Int) (x2 : Int) (x3 : List (List (Bool × List Int × List Int))) (x4 : List (Bool × List Int × List Int)) (x5 : List (Bool × List Int × List Int)) (x6 : List (Int × Int)) (x7 : List Int) : St := stOf 128 [(7, AV.own 0), (8, AV.own 1), (9, AV.own 2), (10, AV.own 3), (11, AV.parr 4), (39, AV.int IntKind.i64 n), (40, AV.int IntKind.i64 x0), (79, AV.int IntKind.i64 x1), (80, AV.int IntKind.i64 x2)] [HObj.typed (ETy.one (CTy.slice (ETy.more CTy.bool (ETy.more (CTy.slice (ETy.one (CTy.int IntKind.u32))) (ETy.one (CTy.slice (ETy.one (CTy.int IntKind.u32)))))))) x3 false, HObj.typed (ETy.more CTy.bool (ETy.more (CTy.slice (ETy.one (CTy.int IntKind.u32))) (ETy.one (CTy.slice (ETy.one (CTy.int IntKind.u32)))))) x4 false, HObj.typed (ETy.more CTy.bool (ETy.more (CTy.slice (ETy.one (CTy.int IntKind.u32))) (ETy.one (CTy.slice (ETy.one (CTy.int IntKind.u32)))))) x5 false, HObj.typed (ETy.more (CTy.int IntKind.i64) (ETy.one (CTy.int IntKind.i64))) x6 false, HObj.typed (ETy.one (CTy.int IntKind.i64)) x7 false]
noncomputable def rplay_s30_0 (m : List (List ByteArray)) (n : Int) (x0 : Int) (x1 : Int) (x2 : Int) (x3 : List (List (Bool × List Int × List Int))) (x4 : List (Bool × List Int × List Int)) (x5 : List (Bool × List Int × List Int)) (x6 : List (Int × Int)) (x7 : List Int) : St := stOf 128 [(7, AV.own 0), (8, AV.own 1), (9, AV.own 2), (10, AV.own 3), (11, AV.parr 4), (39, AV.int IntKind.i64 n), (40, AV.int IntKind.i64 x0), (101, AV.int IntKind.i64 x1), (102, AV.int IntKind.i64 x2)] [HObj.typed (ETy.one (CTy.slice (ETy.more CTy.bool (ETy.more (CTy.slice (ETy.one (CTy.int IntKind.u32))) (ETy.one (CTy.slice (ETy.one (CTy.int IntKind.u32)))))))) x3 false, HObj.typed (ETy.more CTy.bool (ETy.more (CTy.slice (ETy.one (CTy.int IntKind.u32))) (ETy.one (CTy.slice (ETy.one (CTy.int IntKind.u32)))))) x4 false, HObj.typed (ETy.more CTy.bool (ETy.more (CTy.slice (ETy.one (CTy.int IntKind.u32))) (ETy.one (CTy.slice (ETy.one (CTy.int IntKind.u32)))))) x5 false, HObj.typed (ETy.more (CTy.int IntKind.i64) (ETy.one (CTy.int IntKind.i64))) x6 false, HObj.typed (ETy.one (CTy.int IntKind.i64)) x7 false]
set_option maxRecDepth 1000000 in
theorem rplay_E (m : List (List ByteArray)) (n : Int) (n0 : Nat) (K : AV → List HObj → Prop) :
    execN tab (mixE tab conG1 [] 400) (maskN rplay_live rplay_nils (GoodL Tryz.prog n0 20 K)) (finK tab (fnT Tryz.f20).res K) 400 [.code (fnT Tryz.f20).body] ⟨initEnv (fnT Tryz.f20).n [AV.imm (ETy.one (CTy.slice (ETy.one CTy.str))) m, AV.int IntKind.i64 n], []⟩ =
    (TxM m ∧ bif !decide (gameErr m = 0) then K (AV.tup [AV.nils, AV.int IntKind.i64 (gameErr m)]) [] else bif decide (n < 0) then K (AV.tup [AV.nils, AV.int IntKind.i64 4]) [] else bif bif false then true else decide (n > 200) then K (AV.tup [AV.nils, AV.int IntKind.i64 4]) [] else matErr m = 0 ∧ ∀ (g : List (List QT)), GF g m.length (wide m) (ent m) → bif decide (0 < (↑g.length : Int)) then (bif decide (0 ≤ (↑(List.length (g.getD 0 [])) : Int)) && decide ((↑(List.length (g.getD 0 [])) : Int) ≤ (↑(List.length (g.getD 0 [])) : Int)) && bif (↑(List.length (g.getD 0 [])) : Int).toNat.ble 9223372036854775807 then ((↑(List.length (g.getD 0 [])) : Int).toNat * 56).ble 281474976710656 else false then bif decide (0 ≤ (↑g.length : Int)) && decide ((↑g.length : Int) ≤ (↑g.length : Int)) && bif (↑g.length : Int).toNat.ble 9223372036854775807 then ((↑g.length : Int).toNat * 56).ble 281474976710656 else false then GoodL Tryz.prog n0 20 K (headAt (fnT Tryz.f20) 10) (rplay_s10_0 m n 0 g (List.replicate (↑g.length : Int).toNat (false, [], [])) (List.replicate (↑(List.length (g.getD 0 [])) : Int).toNat (false, [], [])) []) else False else False) ∧ bif decide (0 ≤ (↑g.length : Int)) && decide ((↑g.length : Int) ≤ (↑g.length : Int)) && bif (↑g.length : Int).toNat.ble 9223372036854775807 then ((↑g.length : Int).toNat * 56).ble 281474976710656 else false then bif decide (0 ≤ (↑(List.length (g.getD 0 [])) : Int)) && decide ((↑(List.length (g.getD 0 [])) : Int) ≤ (↑(List.length (g.getD 0 [])) : Int)) && bif (↑(List.length (g.getD 0 [])) : Int).toNat.ble 9223372036854775807 then ((↑(List.length (g.getD 0 [])) : Int).toNat * 56).ble 281474976710656 else false then GoodL Tryz.prog n0 20 K (headAt (fnT Tryz.f20) 10) (rplay_s10_0 m n 0 g (List.replicate (↑g.length : Int).toNat (false, [], [])) (List.replicate (↑(List.length (g.getD 0 [])) : Int).toNat (false, [], [])) []) else False else False else False) := by kernel_rfl
set_option maxRecDepth 1000000 in
theorem rplay_s10_0_E (m : List (List ByteArray)) (n : Int) (x0 : Int) (x1 : List (List (Bool × List Int × List Int))) (x2 : List (Bool × List Int × List Int)) (x3 : List (Bool × List Int × List Int)) (x4 : List (Int × Int)) (n0 : Nat) (K : AV → List HObj → Prop) :
    execN tab (mixE tab conG1 [] 400) (maskN rplay_live rplay_nils (GoodL Tryz.prog n0 20 K)) (finK tab (fnT Tryz.f20).res K) 400 (roundAt (fnT Tryz.f20) 10) (rplay_s10_0 m n x0 x1 x2 x3 x4) =
    (bif decide (x0 < n) then GoodL Tryz.prog n0 20 K (headAt (fnT Tryz.f20) 13) (rplay_s13_0 m n x0 (↑x2.length : Int) 0 x1 x2 x3 x4 (List.replicate 2 0)) else K (AV.tup [AV.own 3, AV.int IntKind.i64 0]) [HObj.typed (ETy.one (CTy.slice (ETy.more CTy.bool (ETy.more (CTy.slice (ETy.one (CTy.int IntKind.u32))) (ETy.one (CTy.slice (ETy.one (CTy.int IntKind.u32)))))))) x1 false, HObj.typed (ETy.more CTy.bool (ETy.more (CTy.slice (ETy.one (CTy.int IntKind.u32))) (ETy.one (CTy.slice (ETy.one (CTy.int IntKind.u32)))))) x2 false, HObj.typed (ETy.more CTy.bool (ETy.more (CTy.slice (ETy.one (CTy.int IntKind.u32))) (ETy.one (CTy.slice (ETy.one (CTy.int IntKind.u32)))))) x3 false, HObj.typed (ETy.more (CTy.int IntKind.i64) (ETy.one (CTy.int IntKind.i64))) x4 false]) := by kernel_rfl
set_option maxRecDepth 1000000 in
theorem rplay_s13_0_E (m : List (List ByteArray)) (n : Int) (x0 : Int) (x1 : Int) (x2 : Int) (x3 : List (List (Bool × List Int × List Int))) (x4 : List (Bool × List Int × List Int)) (x5 : List (Bool × List Int × List Int)) (x6 : List (Int × Int)) (x7 : List Int) (n0 : Nat) (K : AV → List HObj → Prop) :
    execN tab (mixE tab conG1 [] 400) (maskN rplay_live rplay_nils (GoodL Tryz.prog n0 20 K)) (finK tab (fnT Tryz.f20).res K) 400 (roundAt (fnT Tryz.f20) 13) (rplay_s13_0 m n x0 x1 x2 x3 x4 x5 x6 x7) =
    (bif decide (x2 < x1) then bif decide (0 ≤ x2) && decide (x2 < (↑x4.length : Int)) then bif Nat.beq 2 x7.length && decide (0 < (↑x7.length : Int)) then bif decide (0 ≤ x7.getD 0 0) && decide (x7.getD 0 0 < (↑x4.length : Int)) then ∃ x y, Sem.QV ((x4.getD x2.toNat (false, [], [])).1, (x4.getD x2.toNat (false, [], [])).2.1, (x4.getD x2.toNat (false, [], [])).2.2) x ∧ Sem.QV ((x4.getD (Int.toNat (x7.getD 0 0)) (false, [], [])).1, (x4.getD (Int.toNat (x7.getD 0 0)) (false, [], [])).2.1, (x4.getD (Int.toNat (x7.getD 0 0)) (false, [], [])).2.2) y ∧ Sz 4000000000 x ∧ Sz 4000000000 y ∧ bif decide (Sem.sgn (x - y) > 0) then bif Nat.beq 2 x7.length && decide (0 < (↑x7.length : Int)) then GoodL Tryz.prog n0 20 K (headAt (fnT Tryz.f20) 13) (rplay_s13_0 m n x0 x1 (IntKind.i64.wrap (x2 + 1)) x3 x4 x5 x6 (x7.set 0 x2)) else False else GoodL Tryz.prog n0 20 K (headAt (fnT Tryz.f20) 13) (rplay_s13_0 m n x0 x1 (IntKind.i64.wrap (x2 + 1)) x3 x4 x5 x6 x7) else False else False else False else GoodL Tryz.prog n0 20 K (headAt (fnT Tryz.f20) 19) (rplay_s19_0 m n x0 (↑x5.length : Int) 0 x3 x4 x5 x6 x7)) := by kernel_rfl
set_option maxRecDepth 1000000 in
theorem rplay_s19_0_E (m : List (List ByteArray)) (n : Int) (x0 : Int) (x1 : Int) (x2 : Int) (x3 : List (List (Bool × List Int × List Int))) (x4 : List (Bool × List Int × List Int)) (x5 : List (Bool × List Int × List Int)) (x6 : List (Int × Int)) (x7 : List Int) (n0 : Nat) (K : AV → List HObj → Prop) :
    execN tab (mixE tab conG1 [] 400) (maskN rplay_live rplay_nils (GoodL Tryz.prog n0 20 K)) (finK tab (fnT Tryz.f20).res K) 400 (roundAt (fnT Tryz.f20) 19) (rplay_s19_0 m n x0 x1 x2 x3 x4 x5 x6 x7) =
    (bif decide (x2 < x1) then bif decide (0 ≤ x2) && decide (x2 < (↑x5.length : Int)) then bif Nat.beq 2 x7.length && decide (1 < (↑x7.length : Int)) then bif decide (0 ≤ x7.getD 1 0) && decide (x7.getD 1 0 < (↑x5.length : Int)) then ∃ x y, Sem.QV ((x5.getD x2.toNat (false, [], [])).1, (x5.getD x2.toNat (false, [], [])).2.1, (x5.getD x2.toNat (false, [], [])).2.2) x ∧ Sem.QV ((x5.getD (Int.toNat (x7.getD 1 0)) (false, [], [])).1, (x5.getD (Int.toNat (x7.getD 1 0)) (false, [], [])).2.1, (x5.getD (Int.toNat (x7.getD 1 0)) (false, [], [])).2.2) y ∧ Sz 4000000000 x ∧ Sz 4000000000 y ∧ bif decide (Sem.sgn (x - y) < 0) then bif Nat.beq 2 x7.length && decide (1 < (↑x7.length : Int)) then GoodL Tryz.prog n0 20 K (headAt (fnT Tryz.f20) 19) (rplay_s19_0 m n x0 x1 (IntKind.i64.wrap (x2 + 1)) x3 x4 x5 x6 (x7.set 1 x2)) else False else GoodL Tryz.prog n0 20 K (headAt (fnT Tryz.f20) 19) (rplay_s19_0 m n x0 x1 (IntKind.i64.wrap (x2 + 1)) x3 x4 x5 x6 x7) else False else False else False else GoodL Tryz.prog n0 20 K (headAt (fnT Tryz.f20) 25) (rplay_s25_0 m n x0 (↑x4.length : Int) 0 x3 x4 x5 x6 x7)) := by kernel_rfl
set_option maxRecDepth 1000000 in
theorem rplay_s25_0_E (m : List (List ByteArray)) (n : Int) (x0 : Int) (x1 : Int) (x2 : Int) (x3 : List (List (Bool × List Int × List Int))) (x4 : List (Bool × List Int × List Int)) (x5 : List (Bool × List Int × List Int)) (x6 : List (Int × Int)) (x7 : List Int) (n0 : Nat) (K : AV → List HObj → Prop) :
    execN tab (mixE tab conG1 [] 400) (maskN rplay_live rplay_nils (GoodL Tryz.prog n0 20 K)) (finK tab (fnT Tryz.f20).res K) 400 (roundAt (fnT Tryz.f20) 25) (rplay_s25_0 m n x0 x1 x2 x3 x4 x5 x6 x7) =
    (bif decide (x2 < x1) then bif decide (0 ≤ x2) && decide (x2 < (↑x4.length : Int)) then bif decide (0 ≤ x2) && decide (x2 < (↑x3.length : Int)) then bif Nat.beq 2 x7.length && decide (1 < (↑x7.length : Int)) then bif decide (0 ≤ x7.getD 1 0) && decide (x7.getD 1 0 < (↑(List.length (x3.getD x2.toNat [])) : Int)) then ∃ x y, Sem.QV ((x4.getD x2.toNat (false, [], [])).1, (x4.getD x2.toNat (false, [], [])).2.1, (x4.getD x2.toNat (false, [], [])).2.2) x ∧ Sem.QV ((List.getD (x3.getD x2.toNat []) (Int.toNat (x7.getD 1 0)) (false, [], [])).1, (List.getD (x3.getD x2.toNat []) (Int.toNat (x7.getD 1 0)) (false, [], [])).2.1, (List.getD (x3.getD x2.toNat []) (Int.toNat (x7.getD 1 0)) (false, [], [])).2.2) y ∧ Sz 4000000000 x ∧ Sz 4000000000 y ∧ ∀ (r : Bool × List Int × List Int), Sem.QV r (x + y) → bif decide (0 ≤ x2) && decide (x2 < (↑x4.length : Int)) then GoodL Tryz.prog n0 20 K (headAt (fnT Tryz.f20) 25) (rplay_s25_0 m n x0 x1 (IntKind.i64.wrap (x2 + 1)) x3 (x4.set x2.toNat (r.1, r.2.1, r.2.2)) x5 x6 x7) else False else False else False else False else False else GoodL Tryz.prog n0 20 K (headAt (fnT Tryz.f20) 30) (rplay_s30_0 m n x0 (↑x5.length : Int) 0 x3 x4 x5 x6 x7)) := by kernel_rfl
set_option maxRecDepth 1000000 in
theorem rplay_s30_0_E (m : List (List ByteArray)) (n : Int) (x0 : Int) (x1 : Int) (x2 : Int) (x3 : List (List (Bool × List Int × List Int))) (x4 : List (Bool × List Int × List Int)) (x5 : List (Bool × List Int × List Int)) (x6 : List (Int × Int)) (x7 : List Int) (n0 : Nat) (K : AV → List HObj → Prop) :
    execN tab (mixE tab conG1 [] 400) (maskN rplay_live rplay_nils (GoodL Tryz.prog n0 20 K)) (finK tab (fnT Tryz.f20).res K) 400 (roundAt (fnT Tryz.f20) 30) (rplay_s30_0 m n x0 x1 x2 x3 x4 x5 x6 x7) =
    (bif decide (x2 < x1) then bif decide (0 ≤ x2) && decide (x2 < (↑x5.length : Int)) then bif Nat.beq 2 x7.length && decide (0 < (↑x7.length : Int)) then bif decide (0 ≤ x7.getD 0 0) && decide (x7.getD 0 0 < (↑x3.length : Int)) then bif decide (0 ≤ x2) && decide (x2 < (↑(List.length (x3.getD (Int.toNat (x7.getD 0 0)) [])) : Int)) then ∃ x y, Sem.QV ((x5.getD x2.toNat (false, [], [])).1, (x5.getD x2.toNat (false, [], [])).2.1, (x5.getD x2.toNat (false, [], [])).2.2) x ∧ Sem.QV ((List.getD (x3.getD (Int.toNat (x7.getD 0 0)) []) x2.toNat (false, [], [])).1, (List.getD (x3.getD (Int.toNat (x7.getD 0 0)) []) x2.toNat (false, [], [])).2.1, (List.getD (x3.getD (Int.toNat (x7.getD 0 0)) []) x2.toNat (false, [], [])).2.2) y ∧ Sz 4000000000 x ∧ Sz 4000000000 y ∧ ∀ (r : Bool × List Int × List Int), Sem.QV r (x + y) → bif decide (0 ≤ x2) && decide (x2 < (↑x5.length : Int)) then GoodL Tryz.prog n0 20 K (headAt (fnT Tryz.f20) 30) (rplay_s30_0 m n x0 x1 (IntKind.i64.wrap (x2 + 1)) x3 x4 (x5.set x2.toNat (r.1, r.2.1, r.2.2)) x6 x7) else False else False else False else False else False else bif x7.length.beq 2 then bif bif (x6.length + [(x7.getD 0 0, x7.getD 1 0)].length).ble 9223372036854775807 then ((x6.length + [(x7.getD 0 0, x7.getD 1 0)].length) * 16).ble 140737488355328 else false then GoodL Tryz.prog n0 20 K (headAt (fnT Tryz.f20) 10) (rplay_s10_0 m n (IntKind.i64.wrap (x0 + 1)) x3 x4 x5 (x6 ++ [(x7.getD 0 0, x7.getD 1 0)])) else False else False) := by kernel_rfl
end Go.Proofs.YtnjbabkfdcdkbaaGreatDoor.Mach
end
section
/- Package regret: Check, sums, Regrets: the contracts hold. -/
set_option linter.unusedVariables false
set_option linter.unusedSimpArgs false
namespace Go.Proofs.YtnjbabkfdcdkbaaGreatDoor.Lib
open Go Go.Proofs.YtnjbabkfdcdkbaaGreatDoor.Mach Go.Proofs.YtnjbabkfdcdkbaaGreatDoorW.PrintWords Go.Proofs.YtnjbabkfdcdkbaaGreatDoor.Sem Go.Proofs.YtnjbabkfdcdkbaaGreatDoor.Pure
section
variable {A B : Prop}
theorem bif_op {p : Prop} {i : Decidable p} (h : p) (a : A) : bif (bif false then true else decide p) then A else B := by rw [cond_false]; exact bif_pos h a
theorem bif_on {p : Prop} {i : Decidable p} (h : ¬ p) (b : B) : bif (bif false then true else decide p) then A else B := by rw [cond_false]; exact bif_neg h b
theorem bif_in {x n : Nat} (h : x < n) (a : A) : bif decide ((0 : Int) ≤ (x : Int)) && decide ((x : Int) < (n : Int)) then A else False := bif_and (bif_pos (by omega) (bif_pos (by omega) a))
theorem bif_inI {x : Int} {n : Nat} (h0 : 0 ≤ x) (h : x < n) (a : A) : bif decide ((0 : Int) ≤ x) && decide (x < (n : Int)) then A else False := bif_and (bif_pos h0 (bif_pos h a))
end
theorem makeN {n b : Nat} (h : n ≤ 1000000000001) (hb : b ≤ 100) : (decide ((0 : Int) ≤ (n : Int)) && decide ((n : Int) ≤ (n : Int)) && (bif (n : Int).toNat.ble 9223372036854775807 then ((n : Int).toNat * b).ble 281474976710656 else false)) = true := by
  rw [Int.toNat_natCast, (ble_iff _ _).2 (show n ≤ 9223372036854775807 by omega), decide_eq_true (show (0 : Int) ≤ (n : Int) by omega), decide_eq_true (Int.le_refl _)]
  exact (ble_iff _ _).2 (Nat.le_trans (Nat.mul_le_mul h hb) (by decide))
theorem QF.congr {zs : List QT} {n : Nat} {f g : Nat → Rat} (h : QF zs n f) (hfg : ∀ i, i < n → f i = g i) : QF zs n g := ⟨h.len, fun i hi => by rw [← hfg i hi]; exact h.at_ i hi⟩
theorem QF.set {zs : List QT} {n : Nat} {f : Nat → Rat} (h : QF zs n f) {i : Nat} {z : QT} {q : Rat} (hz : QV z q) : QF (zs.set i z) n (fun j => if j = i then q else f j) :=
  ⟨by rw [List.length_set]; exact h.len, fun j hj => by
    rw [List.getD_eq_getElem?_getD, List.getElem?_set]
    by_cases hij : i = j
    · subst hij
      rw [if_pos rfl, if_pos (by rw [h.len]; exact hj), if_pos rfl]
      exact hz
    · rw [if_neg hij, if_neg (fun h => hij h.symm), ← List.getD_eq_getElem?_getD]
      exact h.at_ j hj⟩
theorem QF.zeros (n : Nat) : QF (List.replicate n z0) n (fun _ => 0) := ⟨List.length_replicate, fun i hi => by
  rw [List.getD_eq_getElem?_getD, List.getElem?_replicate, if_pos hi]; exact QV.zero⟩
theorem QF.step {zs : List QT} {n : Nat} {f g : Nat → Rat} {k : Nat} {z : QT} (h : QF zs n (fun j => if j < k then g j else f j)) (hz : QV z (g k)) : QF (zs.set k z) n (fun j => if j < k + 1 then g j else f j) :=
  (h.set hz).congr fun j _ => by
    by_cases h1 : j = k
    · subst h1; rw [if_pos rfl, if_pos (by omega)]
    · rw [if_neg h1]
      by_cases h2 : j < k
      · rw [if_pos h2, if_pos (by omega)]
      · rw [if_neg h2, if_neg (by omega)]
theorem QF.begin {zs : List QT} {n : Nat} {f g : Nat → Rat} (h : QF zs n f) : QF zs n (fun j => if j < 0 then g j else f j) := h.congr fun j _ => (if_neg (Nat.not_lt_zero _)).symm
theorem QF.done {zs : List QT} {n : Nat} {f g : Nat → Rat} (h : QF zs n (fun j => if j < n then g j else f j)) : QF zs n g := h.congr fun j hj => if_pos hj
theorem QF.mid {zs : List QT} {n k : Nat} {f g : Nat → Rat} (h : QF zs n (fun j => if j < k then g j else f j)) (hk : k < n) : QV (zs.getD k z0) (f k) := by
  have := h.at_ k hk
  simp only [Nat.lt_irrefl, if_false] at this
  exact this
theorem game_ok {m : List (List ByteArray)} (h : gameErr m = 0) : MatOk m ∧ 0 < m.length ∧ m.length ≤ 12 ∧ 0 < wide m ∧ wide m ≤ 12 := by
  unfold gameErr at h
  split at h
  · cases h
  · split at h
    · rename_i h2; exact absurd h h2
    · split at h
      · cases h
      · split at h
        · cases h
        · rename_i h1 h2 h3 h4
          refine ⟨mat_ok (Decidable.not_not.1 h2), ?_, by omega, by omega, by omega⟩
          rcases Nat.eq_zero_or_pos m.length with h0 | h0
          · rw [List.length_eq_zero_iff.1 h0] at h3
            exact absurd rfl h3
          · exact h0
theorem inG {n w : Nat} {a : Int × Int} (h : inGB n w a = true) : 0 ≤ a.1 ∧ a.1 < n ∧ 0 ≤ a.2 ∧ a.2 < w := by
  unfold inGB at h
  simp only [Bool.and_eq_true, decide_eq_true_eq] at h
  exact ⟨h.1.1.1, h.1.1.2, h.1.2, h.2⟩
theorem inG_of {n w : Nat} {a : Int × Int} (h1 : 0 ≤ a.1) (h2 : a.1 < n) (h3 : 0 ≤ a.2) (h4 : a.2 < w) : inGB n w a = true := by
  unfold inGB
  simp only [Bool.and_eq_true, decide_eq_true_eq]
  exact ⟨⟨⟨h1, h2⟩, h3⟩, h4⟩
theorem conG1_ok : ∀ g xs Q, conG1 g xs Q → Con Tryz.prog g xs Q := table_ok fun p hp => by
  simp only [List.mem_cons, List.not_mem_nil, or_false] at hp
  rcases hp with rfl | rfl | rfl | rfl | rfl | rfl | rfl | rfl | rfl | rfl | rfl | rfl | rfl
  · exact c1_ok fun _ _ h => gcheck_con h
  · exact c1_ok fun _ _ h => lgame_con h
  · exact c1_ok fun _ _ h => xwide_con h
  · exact c2_ok fun _ _ _ h => add_con h
  · exact c1_ok fun _ _ h => mvec_con h
  · exact c1_ok fun _ _ h => row_con h
  · exact c1_ok fun _ _ h => sign_con h
  · exact c2_ok fun _ _ _ h => quo_con h
  · exact c1_ok fun _ _ h => int_con h
  · exact c1_ok fun _ _ h => out_conV h
  · exact c1_ok fun _ _ h => grid_con h
  · exact c2_ok fun _ _ _ h => cmp_con h
  · exact c1_ok fun _ _ h => out_con h
section
variable {m : List (List ByteArray)} {l : List (Int × Int)} {Q : Res}
theorem hist_bad (h1 : gameErr m = 0) (h2 : ¬ 200 < l.length) {t : Nat} (ht : t < l.length) (hb : ¬ inGB m.length (wide m) (l.getD t p0) = true) : histErr m l = 4 := by
  unfold histErr
  rw [if_neg (fun h => h h1), if_neg h2, if_neg]
  exact fun hc => hb (hc t ht)
theorem hist_ok (h : histErr m l = 0) : gameErr m = 0 ∧ l.length ≤ 200 ∧ ∀ t, t < l.length → inGB m.length (wide m) (l.getD t p0) = true := by
  unfold histErr at h
  split at h
  · rename_i h1; exact absurd h h1
  · split at h
    · cases h
    · split at h
      · rename_i h1 h2 h3; exact ⟨Decidable.not_not.1 h1, by omega, h3⟩
      · cases h
theorem hist_of (h1 : gameErr m = 0) (h2 : ¬ 200 < l.length) (h3 : ∀ t, t < l.length → inGB m.length (wide m) (l.getD t p0) = true) : histErr m l = 0 := by
  unfold histErr
  rw [if_neg (fun h => h h1), if_neg h2, if_pos h3]
theorem lhist_con (h : histS m l Q) : Con Tryz.prog 8 [.imm (eL eS) m, .imm eP l] Q := by
  obtain ⟨⟨ht, hn⟩, hq⟩ := h
  unfold TxP at hn
  have hk : ∀ e H, histErr m l = e → resK Q (.int .i64 e) H := fun e H h1 => by rw [h1] at hq; exact res_int hq
  refine conN (gn := fnT Tryz.f8) (by kernel_rfl) conG1_ok (inl := []) (LT := lhist_live) (NT := lhist_nils) rfl fun n0 => ?_
  rw [lhist_E]
  refine ⟨ht, ?_⟩
  by_cases h1 : gameErr m = 0
  · refine bif_not (bif_pos h1 ?_)
    by_cases h2 : 200 < l.length
    · exact bif_pos (by omega) (hk _ _ (by unfold histErr; rw [if_neg (fun h => h h1), if_pos h2]))
    refine bif_neg (by omega) ?_
    obtain ⟨M, m0, m12, w0, w12⟩ := game_ok h1
    refine loopN (f := 8) (gn := fnT Tryz.f8) (n0 := n0) (r := 7) (by kernel_rfl) conG1_ok (inl := []) (LT := lhist_live) (NT := lhist_nils) (K := resK Q) (fun x : Nat => lhist_s7_0 m l (l.length : Int) (x : Int)) (fun x => l.length - x) (fun x => x ≤ l.length ∧ ∀ t, t < x → inGB m.length (wide m) (l.getD t p0) = true) (fun x hp ih => ?_) 0 ⟨Nat.zero_le _, fun t ht => absurd ht (Nat.not_lt_zero _)⟩
    obtain ⟨hp, he⟩ := hp
    rw [lhist_s7_0_E]
    by_cases hx : x < l.length
    · have bad := hist_bad h1 h2 hx
      refine bif_pos (by omega) (bif_in hx ?_)
      rw [Int.toNat_natCast, wrS hx (by omega)]
      generalize hA : l.getD x p0 = a at bad
      have no : ∀ {p : Prop}, (inGB m.length (wide m) a = true → ¬ p) → p → ∀ H, resK Q (.int .i64 4) H := fun hp h H => hk _ _ (bad fun hc => hp hc h)
      by_cases c1 : a.1 < 0
      · exact bif_pos c1 (no (fun h => by have := inG h; omega) c1 _)
      refine bif_neg c1 ?_
      by_cases c2 : a.1 ≥ (m.length : Int)
      · exact bif_op c2 (no (fun h => by have := inG h; omega) c2 _)
      refine bif_on c2 ?_
      by_cases c3 : a.2 < 0
      · exact bif_op c3 (no (fun h => by have := inG h; omega) c3 _)
      refine bif_on c3 ?_
      by_cases c4 : a.2 ≥ (wide m : Int)
      · exact bif_op c4 (no (fun h => by have := inG h; omega) c4 _)
      refine bif_on c4 (ih (x + 1) ⟨by omega, fun t ht => ?_⟩ (by omega))
      by_cases htx : t = x
      · rw [htx, hA]; exact inG_of (by omega) (by omega) (by omega) (by omega)
      · exact he t (by omega)
    · exact bif_neg (by omega) (hk _ _ (hist_of h1 h2 fun t ht => he t (by omega)))
  · exact bif_not (bif_neg h1 (hk _ _ (by unfold histErr; rw [if_pos h1])))
theorem rcheck_con' (h : histS m l Q) : Con Tryz.prog 9 [.imm (eL eS) m, .imm eP l] Q := by
  obtain ⟨⟨ht, hn⟩, hq⟩ := h
  unfold TxP at hn
  have hk : ∀ e H, histErr m l = e → resK Q (.int .i64 e) H := fun e H h1 => by rw [h1] at hq; exact res_int hq
  refine conN (gn := fnT Tryz.f9) (by kernel_rfl) conG1_ok (inl := []) (LT := rcheck_live) (NT := rcheck_nils) rfl fun n0 => ?_
  rw [rcheck_E]
  refine ⟨ht, ?_⟩
  by_cases h1 : gameErr m = 0
  · refine bif_not (bif_pos h1 ?_)
    by_cases h2 : 200 < l.length
    · exact bif_pos (by omega) (hk _ _ (by unfold histErr; rw [if_neg (fun h => h h1), if_pos h2]))
    refine bif_neg (by omega) ?_
    obtain ⟨M, m0, m12, w0, w12⟩ := game_ok h1
    refine loopN (f := 9) (gn := fnT Tryz.f9) (n0 := n0) (r := 7) (by kernel_rfl) conG1_ok (inl := []) (LT := rcheck_live) (NT := rcheck_nils) (K := resK Q) (fun x : Nat => rcheck_s7_0 m l (l.length : Int) (x : Int)) (fun x => l.length - x) (fun x => x ≤ l.length ∧ ∀ t, t < x → inGB m.length (wide m) (l.getD t p0) = true) (fun x hp ih => ?_) 0 ⟨Nat.zero_le _, fun t ht => absurd ht (Nat.not_lt_zero _)⟩
    obtain ⟨hp, he⟩ := hp
    rw [rcheck_s7_0_E]
    by_cases hx : x < l.length
    · have bad := hist_bad h1 h2 hx
      refine bif_pos (by omega) (bif_in hx ?_)
      rw [Int.toNat_natCast, wrS hx (by omega)]
      generalize hA : l.getD x p0 = a at bad
      have no : ∀ {p : Prop}, (inGB m.length (wide m) a = true → ¬ p) → p → ∀ H, resK Q (.int .i64 4) H := fun hp h H => hk _ _ (bad fun hc => hp hc h)
      by_cases c1 : a.1 < 0
      · exact bif_pos c1 (no (fun h => by have := inG h; omega) c1 _)
      refine bif_neg c1 ?_
      by_cases c2 : a.1 ≥ (m.length : Int)
      · exact bif_op c2 (no (fun h => by have := inG h; omega) c2 _)
      refine bif_on c2 ?_
      by_cases c3 : a.2 < 0
      · exact bif_op c3 (no (fun h => by have := inG h; omega) c3 _)
      refine bif_on c3 (bif_pos (by omega) ?_)
      by_cases c4 : a.2 ≥ (wide m : Int)
      · exact bif_op c4 (no (fun h => by have := inG h; omega) c4 _)
      refine bif_on c4 (ih (x + 1) ⟨by omega, fun t ht => ?_⟩ (by omega))
      by_cases htx : t = x
      · rw [htx, hA]; exact inG_of (by omega) (by omega) (by omega) (by omega)
      · exact he t (by omega)
    · exact bif_neg (by omega) (hk _ _ (hist_of h1 h2 fun t ht => he t (by omega)))
  · exact bif_not (bif_neg h1 (hk _ _ (by unfold histErr; rw [if_pos h1])))
theorem sz_rows {F : Nat → Nat → Rat} {n w i x : Nat} (h : ∀ t, t < l.length → inGB n w (l.getD t p0) = true) (sz : ∀ i k, i < n → k < w → Sz 2000 (F i k)) (hi : i < n) (hx : x ≤ l.length) : Sz (x * 2001 + 1) (rowsQ F l x i) :=
  sz_sum (s := 2000) (n := l.length) (fun t ht => by have := inG (h t ht); exact sz _ _ hi (by omega)) x hx
theorem sz_cols {F : Nat → Nat → Rat} {n w k x : Nat} (h : ∀ t, t < l.length → inGB n w (l.getD t p0) = true) (sz : ∀ i k, i < n → k < w → Sz 2000 (F i k)) (hk : k < w) (hx : x ≤ l.length) : Sz (x * 2001 + 1) (colsQ F l x k) :=
  sz_sum (s := 2000) (n := l.length) (fun t ht => by have := inG (h t ht); exact sz _ _ (by omega) hk) x hx
theorem sz_paid {F : Nat → Nat → Rat} {n w x : Nat} (h : ∀ t, t < l.length → inGB n w (l.getD t p0) = true) (sz : ∀ i k, i < n → k < w → Sz 2000 (F i k)) (hx : x ≤ l.length) : Sz (x * 2001 + 1) (paidQ F l x) :=
  sz_sum (s := 2000) (n := l.length) (fun t ht => by have := inG (h t ht); exact sz _ _ (by omega) (by omega)) x hx
theorem sums_con {g : List (List QT)} (h : sumsS g l Q) : Con Tryz.prog 27 [.imm (eL eQ) g, .imm eP l] Q := by
  obtain ⟨n, w, F, R, hq⟩ := h
  obtain ⟨hg, n0', w0', n12, w12, sz, l200, hat⟩ := R
  have hgl := hg.len
  have hw0 := (hg.at_ 0 n0').len
  refine conN (gn := fnT Tryz.f27) (by kernel_rfl) conG1_ok (inl := []) (LT := rsums_live) (NT := rsums_nils) rfl fun n0 => ?_
  rw [rsums_E]
  have main := loopN (f := 27) (gn := fnT Tryz.f27) (n0 := n0) (r := 3) (by kernel_rfl) conG1_ok (inl := []) (LT := rsums_live) (NT := rsums_nils) (K := resK Q) (fun y : Nat × List QT × List QT => rsums_s3_0 g l (l.length : Int) (y.1 : Int) y.2.1 y.2.2) (fun y => l.length - y.1) (fun y => y.1 ≤ l.length ∧ QF y.2.1 n (rowsQ F l y.1) ∧ QF y.2.2 w (colsQ F l y.1)) (fun y hp ih => by
    obtain ⟨x, zr, zc⟩ := y
    obtain ⟨hx0, hr, hc⟩ := hp
    simp only at hx0 hr hc
    show execN _ _ _ _ _ _ (rsums_s3_0 g l (l.length : Int) (x : Int) zr zc)
    rw [rsums_s3_0_E]
    by_cases hx : x < l.length
    · have ha := inG (hat x hx)
      refine bif_pos (by omega) (bif_in hx ?_)
      rw [Int.toNat_natCast]
      have hrow : ∀ i, rowsQ F l (x + 1) i = rowsQ F l x i + F i (l.getD x p0).2.toNat := fun i => rfl
      have hcol : ∀ k, colsQ F l (x + 1) k = colsQ F l x k + F (l.getD x p0).1.toNat k := fun k => rfl
      have szr : ∀ i, i < n → Sz 4000000000 (rowsQ F l x i) := fun i hi => (sz_rows hat sz hi hx0).mono (by omega)
      have szc : ∀ k, k < w → Sz 4000000000 (colsQ F l x k) := fun k hk => (sz_cols hat sz hk hx0).mono (by omega)
      generalize hA : l.getD x p0 = a at ha hrow hcol
      obtain ⟨a1, a2⟩ := a
      simp only at ha hrow hcol
      -- the columns
      have cols := loopN (f := 27) (gn := fnT Tryz.f27) (n0 := n0) (r := 11) (by kernel_rfl) conG1_ok (inl := []) (LT := rsums_live) (NT := rsums_nils) (K := resK Q) (fun y : Nat × List QT × List QT => rsums_s11_0 g l (l.length : Int) (x : Int) (y.2.2.length : Int) (y.1 : Int) y.2.1 y.2.2 [a1, a2]) (fun y => w - y.1) (fun y => y.1 ≤ w ∧ QF y.2.1 n (rowsQ F l (x + 1)) ∧ QF y.2.2 w (fun j => if j < y.1 then colsQ F l (x + 1) j else colsQ F l x j)) (fun y hp ih2 => by
        obtain ⟨k, zr, zc⟩ := y
        obtain ⟨hk0, hr, hc⟩ := hp
        simp only at hk0 hr hc
        have hcl := hc.len
        show execN _ _ _ _ _ _ (rsums_s11_0 g l (l.length : Int) (x : Int) (zc.length : Int) (k : Int) zr zc [a1, a2])
        rw [rsums_s11_0_E]
        by_cases hk : k < w
        · have hgr := hg.at_ a1.toNat (by omega)
          have hgrl := hgr.len
          refine bif_pos (by omega) (bif_in (by omega) (bif_t rfl (bif_inI (show 0 ≤ a1 by omega) (show a1 < _ by omega) (bif_in (by show k < (g.getD a1.toNat []).length; omega) ?_))))
          rw [Int.toNat_natCast, wrS (n := w) hk (by omega)]
          refine ⟨_, _, hc.mid hk, hgr.at_ k hk, szc k hk, (sz _ _ (by omega) hk).mono (by decide), fun r hr2 => bif_in (by omega) ?_⟩
          have := ih2 (k + 1, zr, zc.set k r) ⟨by show k + 1 ≤ w; omega, hr, hc.step (g := colsQ F l (x + 1)) (by rw [hcol]; exact hr2)⟩ (by show w - (k + 1) < w - k; omega)
          simp only [List.length_set] at this
          exact this
        · have hkw : k = w := by omega
          subst hkw
          refine bif_neg (by omega) ?_
          rw [wrS hx (by omega)]
          exact ih (x + 1, zr, zc) ⟨by show x + 1 ≤ l.length; omega, hr, hc.done⟩ (by show l.length - (x + 1) < l.length - x; omega))
      have rows := loopN (f := 27) (gn := fnT Tryz.f27) (n0 := n0) (r := 6) (by kernel_rfl) conG1_ok (inl := []) (LT := rsums_live) (NT := rsums_nils) (K := resK Q) (fun y : Nat × List QT => rsums_s6_0 g l (l.length : Int) (x : Int) (y.2.length : Int) (y.1 : Int) y.2 zc [a1, a2]) (fun y => n - y.1) (fun y => y.1 ≤ n ∧ QF y.2 n (fun j => if j < y.1 then rowsQ F l (x + 1) j else rowsQ F l x j)) (fun y hp ih2 => by
        obtain ⟨i, zr⟩ := y
        obtain ⟨hi0, hr⟩ := hp
        simp only at hi0 hr
        have hrl := hr.len
        show execN _ _ _ _ _ _ (rsums_s6_0 g l (l.length : Int) (x : Int) (zr.length : Int) (i : Int) zr zc [a1, a2])
        rw [rsums_s6_0_E]
        by_cases hi : i < n
        · have hgr := hg.at_ i hi
          have hgrl := hgr.len
          refine bif_pos (by omega) (bif_in (by omega) (bif_in (by omega) (bif_t rfl (bif_inI (show 0 ≤ a2 by omega) (by show a2 < ((g.getD (i : Int).toNat []).length : Int); rw [Int.toNat_natCast]; omega) ?_))))
          rw [Int.toNat_natCast, wrS (n := n) hi (by omega)]
          refine ⟨_, _, hr.mid hi, hgr.at_ a2.toNat (by omega), szr i hi, (sz _ _ hi (by omega)).mono (by decide), fun r hr2 => bif_in (by omega) ?_⟩
          have := ih2 (i + 1, zr.set i r) ⟨by show i + 1 ≤ n; omega, hr.step (g := rowsQ F l (x + 1)) (by rw [hrow]; exact hr2)⟩ (by show n - (i + 1) < n - i; omega)
          simp only [List.length_set] at this
          exact this
        · have hin : i = n := by omega
          subst hin
          refine bif_neg (by omega) ?_
          exact cols (0, zr, zc) ⟨Nat.zero_le _, hr.done, hc.begin⟩)
      have := rows (0, zr) ⟨Nat.zero_le _, hr.begin⟩
      exact this
    · have hxx : x = l.length := by omega
      subst hxx
      refine bif_neg (by omega) ?_
      exact ⟨.tup [.own 0, .own 1], [.typed eQ zr false, .typed eQ zc false], hq zr zc hr hc, rfl, rfl, [0, 1], rfl, by decide, fun k id hk => by
        match k, hk with
        | 0, hk => cases hk; rfl
        | 1, hk => cases hk; rfl, rfl⟩)
  have start : GoodL Tryz.prog n0 27 (resK Q) (headAt (fnT Tryz.f27) 3) (rsums_s3_0 g l (l.length : Int) ((0 : Nat) : Int) (List.replicate g.length z0) (List.replicate (g.getD 0 []).length z0)) :=
    main (0, List.replicate g.length z0, List.replicate (g.getD 0 []).length z0) ⟨Nat.zero_le _, by rw [hgl]; exact QF.zeros n, by rw [hw0]; exact QF.zeros w⟩
  have k1 := makeN (n := g.length) (b := 56) (by omega) (by decide)
  have k2 := makeN (n := (g.getD 0 []).length) (b := 56) (by omega) (by decide)
  simp only [Int.toNat_natCast] at k1 k2 ⊢
  exact bif_pos (by omega) ⟨bif_t k2 (bif_t k1 start), bif_t k1 (bif_t k2 start)⟩
end
end Go.Proofs.YtnjbabkfdcdkbaaGreatDoor.Lib
end
section
/- Package regret: Regrets, Match: the contracts hold. -/
set_option linter.unusedVariables false
set_option linter.unusedSimpArgs false
namespace Go.Proofs.YtnjbabkfdcdkbaaGreatDoor.Lib
open Go Go.Proofs.YtnjbabkfdcdkbaaGreatDoor.Mach Go.Proofs.YtnjbabkfdcdkbaaGreatDoorW.PrintWords Go.Proofs.YtnjbabkfdcdkbaaGreatDoor.Sem Go.Proofs.YtnjbabkfdcdkbaaGreatDoor.Pure
def outR (a b : List ByteArray) (n : Int) : Res := fun v o => (v = .tup [.imm eS a, .imm eS b, .int .i64 n] ∧ o = []) ∨ (a = [] ∧ b = [] ∧ v = .tup [.nils, .nils, .int .i64 n] ∧ o = [])
theorem outR_seal {a b : List ByteArray} {n : Int} {P : Program} {g : FuncId} {args : List AV} {Q : Res} (h : Con P g args (outR a b n)) (hQ : Q (.tup [.imm eS a, .imm eS b, .int .i64 n]) []) : Con P g args Q :=
  h.sealTo fun v o hv => by
    rcases hv with ⟨rfl, rfl⟩ | ⟨rfl, rfl, rfl, rfl⟩
    · exact ⟨_, ⟨_, rfl, .cons rfl (.cons rfl (.cons rfl .nil))⟩, hQ⟩
    · exact ⟨_, ⟨_, rfl, .cons (Or.inr ⟨eS, rfl⟩) (.cons (Or.inr ⟨eS, rfl⟩) (.cons rfl .nil))⟩, hQ⟩
theorem outR_two {a b : List ByteArray} {n : Int} {H : List HObj} : resK (outR a b n) (.tup [.imm eS a, .imm eS b, .int .i64 n]) H := res_plain (.inl ⟨rfl, rfl⟩) rfl rfl
theorem outR_nil {a b : List ByteArray} {n : Int} {H : List HObj} (ha : a = []) (hb : b = []) : resK (outR a b n) (.tup [.nils, .nils, .int .i64 n]) H := res_plain (.inr ⟨ha, hb, rfl, rfl⟩) rfl rfl
def outI (l : List ByteArray) (n : Int) : Res := fun v o => (v = .tup [.imm eS l, .int .i64 n] ∧ o = []) ∨ (l = [] ∧ v = .tup [.nils, .int .i64 n] ∧ o = [])
theorem outI_seal {l : List ByteArray} {n : Int} {P : Program} {g : FuncId} {args : List AV} {Q : Res} (h : Con P g args (outI l n)) (hQ : Q (.tup [.imm eS l, .int .i64 n]) []) : Con P g args Q :=
  h.sealTo fun v o hv => by
    rcases hv with ⟨rfl, rfl⟩ | ⟨rfl, rfl, rfl⟩
    · exact ⟨_, ⟨_, rfl, .cons rfl (.cons rfl .nil)⟩, hQ⟩
    · exact ⟨_, ⟨_, rfl, .cons (Or.inr ⟨eS, rfl⟩) (.cons rfl .nil)⟩, hQ⟩
theorem outI_one {l : List ByteArray} {n : Int} {H : List HObj} : resK (outI l n) (.tup [.imm eS l, .int .i64 n]) H := res_plain (.inl ⟨rfl, rfl⟩) rfl rfl
theorem outI_nil {l : List ByteArray} {n : Int} {H : List HObj} (h : l = []) : resK (outI l n) (.tup [.nils, .int .i64 n]) H := res_plain (.inr ⟨h, rfl, rfl⟩) rfl rfl
theorem WkS.same : ∀ l : List (Nat × AV), WkS l l
  | [] => .nil
  | (_, x) :: l => .cons (.one (.refl x)) (WkS.same l)
section
variable {m : List (List ByteArray)} {l : List (Int × Int)} {Q : Res}
theorem rounds_of (h : histErr m l = 0) {g : List (List QT)} (hg : GF g m.length (wide m) (ent m)) : Rounds g l m.length (wide m) (ent m) := by
  obtain ⟨h1, h2, h3⟩ := hist_ok h
  obtain ⟨M, m0, m12, w0, w12⟩ := game_ok h1
  exact ⟨hg, m0, w0, m12, w12, fun i k hi hk => (M.ent i k hi hk).2, h2, h3⟩
theorem conG2_ok : ∀ g xs Q, conG2 g xs Q → Con Tryz.prog g xs Q := table_ok fun p hp => by
  simp only [List.mem_cons, List.not_mem_nil, or_false] at hp
  rcases hp with rfl | rfl | rfl | rfl | rfl | rfl | rfl | rfl | rfl | rfl | rfl
  · exact c2_ok fun _ _ _ h => rcheck_con' h
  · exact c2_ok fun _ _ _ h => sums_con h
  · exact c1_ok fun _ _ h => grid_con h
  · exact c1_ok fun _ _ h => out_conV h
  · exact c2_ok fun _ _ _ h => add_con h
  · exact c2_ok fun _ _ _ h => sub_con h
  · exact c2_ok fun _ _ _ h => quo_con h
  · exact c2_ok fun _ _ _ h => cmp_con h
  · exact c1_ok fun _ _ h => int_con h
  · exact c1_ok fun _ _ h => out_con h
  · exact c1_ok fun _ _ h => told_con h
theorem sz_regA {n w : Nat} {F : Nat → Nat → Rat} {g : List (List QT)} (R : Rounds g l n w F) {i : Nat} (hi : i < n) : Sz 1000000 (rowsQ F l l.length i - paidQ F l l.length) :=
  (szS_sub (sz_rows R.at_ R.sz hi (Nat.le_refl _)) (sz_paid R.at_ R.sz (Nat.le_refl _))).mono (by have := R.l200; omega)
theorem sz_regB {n w : Nat} {F : Nat → Nat → Rat} {g : List (List QT)} (R : Rounds g l n w F) {k : Nat} (hk : k < w) : Sz 1000000 (paidQ F l l.length - colsQ F l l.length k) :=
  (szS_sub (sz_paid R.at_ R.sz (Nat.le_refl _)) (sz_cols R.at_ R.sz hk (Nat.le_refl _))).mono (by have := R.l200; omega)
theorem regs_con (h : regS m l Q) : Con Tryz.prog 7 [.imm (eL eS) m, .imm eP l] Q := by
  obtain ⟨⟨ht, hn⟩, hq⟩ := h
  refine outR_seal (a := regVA m l) (b := regVB m l) (n := regE m l) ?_ hq
  refine conN (gn := fnT Tryz.f7) (by kernel_rfl) conG2_ok (inl := []) (LT := rregs_live) (NT := rregs_nils) rfl fun n0 => ?_
  rw [rregs_E]
  refine ⟨⟨ht, hn⟩, ?_⟩
  by_cases h1 : histErr m l = 0
  · obtain ⟨hG, _, _⟩ := hist_ok h1
    have hM : matErr m = 0 := by
      unfold gameErr at hG
      split at hG
      · cases hG
      · split at hG
        · rename_i h2; exact absurd hG h2
        · rename_i h2; exact Decidable.not_not.1 h2
    refine bif_not (bif_pos h1 ⟨hM, fun g hg => ?_⟩)
    have R := rounds_of h1 hg
    have hgl := hg.len
    have hn12 := R.n12
    have hw12 := R.w12
    have hl200 := R.l200
    have loop18 : ∀ z zr, QV z (paidQ (ent m) l l.length) → QF zr m.length (regA m l) → ∀ y : Nat × List QT, (y.1 ≤ wide m ∧ QF y.2 (wide m) (fun j => if j < y.1 then regB m l j else colsQ (ent m) l l.length j)) → GoodL Tryz.prog n0 7 (resK (outR (regVA m l) (regVB m l) (regE m l))) (headAt (fnT Tryz.f7) 18) (rregs_s18_1 m l ((wide m : Nat) : Int) (y.1 : Int) z.1 z.2.1 z.2.2 zr y.2) := fun z zr hz hr =>
      loopN (f := 7) (gn := fnT Tryz.f7) (n0 := n0) (r := 18) (by kernel_rfl) conG2_ok (inl := []) (LT := rregs_live) (NT := rregs_nils) (K := resK (outR (regVA m l) (regVB m l) (regE m l))) (fun y : Nat × List QT => rregs_s18_1 m l ((wide m : Nat) : Int) (y.1 : Int) z.1 z.2.1 z.2.2 zr y.2) (fun y => wide m - y.1) (fun y => y.1 ≤ wide m ∧ QF y.2 (wide m) (fun j => if j < y.1 then regB m l j else colsQ (ent m) l l.length j)) (fun y hp ih => by
        obtain ⟨k, zc⟩ := y
        obtain ⟨hk0, hc⟩ := hp
        simp only at hk0 hc
        have hcl := hc.len
        show execN _ _ _ _ _ _ (rregs_s18_1 m l ((wide m : Nat) : Int) (k : Int) z.1 z.2.1 z.2.2 zr zc)
        rw [rregs_s18_1_E]
        by_cases hk : k < wide m
        · refine bif_pos (by omega) (bif_in (by omega) ?_)
          rw [Int.toNat_natCast, wrS hk (by omega)]
          refine ⟨_, _, hz, hc.mid hk, (sz_paid R.at_ R.sz (Nat.le_refl _)).mono (by omega), (sz_cols R.at_ R.sz hk (Nat.le_refl _)).mono (by omega), fun r hr2 => bif_in (by omega) ?_⟩
          exact ih (k + 1, zc.set k r) ⟨by show k + 1 ≤ wide m; omega, hc.step (g := regB m l) hr2⟩ (by show wide m - (k + 1) < wide m - k; omega)
        · have hkw : k = wide m := by omega
          subst hkw
          have hc := hc.done
          refine bif_neg (by omega) ⟨_, _, hr, by unfold TxN; omega, fun i hi => (sz_regA R hi).mono (by decide), ?_⟩
          by_cases e1 : vecE m.length (regA m l) = 0
          · refine bif_not (bif_pos e1 ⟨_, _, hc, by unfold TxN; omega, fun i hi => (sz_regB R hi).mono (by decide), ?_⟩)
            by_cases e2 : vecE (wide m) (regB m l) = 0
            · have hE : regE m l = 0 := by unfold regE; rw [if_neg (fun h => h h1), if_neg (fun h => h e1), e2]
              refine bif_not (bif_pos e2 ?_)
              have a1 : regVA m l = vecV m.length (regA m l) := by unfold regVA vecV; rw [if_pos hE, if_pos e1]
              have a2 : regVB m l = vecV (wide m) (regB m l) := by unfold regVB vecV; rw [if_pos hE, if_pos e2]
              rw [← a1, ← a2, hE]
              exact outR_two
            · have hE : regE m l = vecE (wide m) (regB m l) := by unfold regE; rw [if_neg (fun h => h h1), if_neg (fun h => h e1)]
              refine bif_not (bif_neg e2 ?_)
              have hne : regE m l ≠ 0 := by rw [hE]; exact e2
              rw [← hE]
              exact outR_nil (if_neg hne) (if_neg hne)
          · have hE : regE m l = vecE m.length (regA m l) := by unfold regE; rw [if_neg (fun h => h h1), if_pos e1]
            refine bif_not (bif_neg e1 ?_)
            have hne : regE m l ≠ 0 := by rw [hE]; exact e1
            rw [← hE]
            exact outR_nil (if_neg hne) (if_neg hne))
    have loop13 : ∀ z zc, QV z (paidQ (ent m) l l.length) → QF zc (wide m) (colsQ (ent m) l l.length) → ∀ y : Nat × List QT, (y.1 ≤ m.length ∧ QF y.2 m.length (fun j => if j < y.1 then regA m l j else rowsQ (ent m) l l.length j)) → GoodL Tryz.prog n0 7 (resK (outR (regVA m l) (regVB m l) (regE m l))) (headAt (fnT Tryz.f7) 13) (rregs_s13_1 m l ((m.length : Nat) : Int) (y.1 : Int) z.1 z.2.1 z.2.2 y.2 zc) := fun z zc hz hc =>
      loopN (f := 7) (gn := fnT Tryz.f7) (n0 := n0) (r := 13) (by kernel_rfl) conG2_ok (inl := []) (LT := rregs_live) (NT := rregs_nils) (K := resK (outR (regVA m l) (regVB m l) (regE m l))) (fun y : Nat × List QT => rregs_s13_1 m l ((m.length : Nat) : Int) (y.1 : Int) z.1 z.2.1 z.2.2 y.2 zc) (fun y => m.length - y.1) (fun y => y.1 ≤ m.length ∧ QF y.2 m.length (fun j => if j < y.1 then regA m l j else rowsQ (ent m) l l.length j)) (fun y hp ih => by
        obtain ⟨k, zr⟩ := y
        obtain ⟨hk0, hr⟩ := hp
        simp only at hk0 hr
        have hrl := hr.len
        have hcl := hc.len
        show execN _ _ _ _ _ _ (rregs_s13_1 m l ((m.length : Nat) : Int) (k : Int) z.1 z.2.1 z.2.2 zr zc)
        rw [rregs_s13_1_E]
        by_cases hk : k < m.length
        · refine bif_pos (by omega) (bif_in (by omega) ?_)
          rw [Int.toNat_natCast, wrS hk (by omega)]
          refine ⟨_, _, hr.mid hk, hz, (sz_rows R.at_ R.sz hk (Nat.le_refl _)).mono (by omega), (sz_paid R.at_ R.sz (Nat.le_refl _)).mono (by omega), fun r hr2 => bif_in (by omega) ?_⟩
          exact ih (k + 1, zr.set k r) ⟨by show k + 1 ≤ m.length; omega, hr.step (g := regA m l) hr2⟩ (by show m.length - (k + 1) < m.length - k; omega)
        · have hkw : k = m.length := by omega
          subst hkw
          refine bif_neg (by omega) ?_
          rw [hcl]
          exact loop18 z zr hz hr.done (0, zc) ⟨Nat.zero_le _, hc.begin⟩)
    have loop7 := loopN (f := 7) (gn := fnT Tryz.f7) (n0 := n0) (r := 7) (by kernel_rfl) conG2_ok (inl := []) (LT := rregs_live) (NT := rregs_nils) (K := resK (outR (regVA m l) (regVB m l) (regE m l))) (fun y : Nat × QT => rregs_s7_1 m l (l.length : Int) (y.1 : Int) g y.2.1 y.2.2.1 y.2.2.2) (fun y => l.length - y.1) (fun y => y.1 ≤ l.length ∧ QV y.2 (paidQ (ent m) l y.1)) (fun y hp ih => by
        obtain ⟨x, z⟩ := y
        obtain ⟨hx0, hz⟩ := hp
        simp only at hx0 hz
        show execN _ _ _ _ _ _ (rregs_s7_1 m l (l.length : Int) (x : Int) g z.1 z.2.1 z.2.2)
        rw [rregs_s7_1_E]
        by_cases hx : x < l.length
        · have ha := inG (R.at_ x hx)
          refine bif_pos (by omega) (bif_in hx ?_)
          rw [Int.toNat_natCast, wrS hx (by omega)]
          have hp : paidQ (ent m) l (x + 1) = paidQ (ent m) l x + ent m (l.getD x p0).1.toNat (l.getD x p0).2.toNat := rfl
          have ih' := ih
          generalize hA : l.getD x p0 = a at ha hp
          obtain ⟨a1, a2⟩ := a
          simp only at ha hp
          have hgr := hg.at_ a1.toNat (by omega)
          have hgrl := hgr.len
          refine bif_inI (show 0 ≤ a1 by omega) (show a1 < _ by omega) (bif_inI (show 0 ≤ a2 by omega) (show a2 < ((g.getD a1.toNat []).length : Int) by omega) ?_)
          refine ⟨_, _, hz, hgr.at_ a2.toNat (by omega), (sz_paid R.at_ R.sz hx0).mono (by omega), (R.sz _ _ (by omega) (by omega)).mono (by decide), fun r hr2 => ?_⟩
          exact ih' (x + 1, r) ⟨by show x + 1 ≤ l.length; omega, by rw [hp]; exact hr2⟩ (by show l.length - (x + 1) < l.length - x; omega)
        · have hxx : x = l.length := by omega
          subst hxx
          refine bif_neg (by omega) ⟨_, _, _, R, fun zr zc hr hc => ?_⟩
          rw [hr.len]
          exact loop13 z zc hz hc (0, zr) ⟨Nat.zero_le _, hr.begin⟩)
    exact wk_good (WkS.same _) (.cons (.refl _) (.cons (.box (.cons (.refl _) (.cons (.nil eW) (.cons (.nil eW) .nil)))) .nil)) (loop7 (0, z0) ⟨Nat.zero_le _, QV.zero⟩)
  · refine bif_not (bif_neg h1 ?_)
    have hE : regE m l = histErr m l := by unfold regE; rw [if_pos h1]
    have hne : regE m l ≠ 0 := by rw [hE]; exact h1
    rw [← hE]
    exact outR_nil (if_neg hne) (if_neg hne)
end
end Go.Proofs.YtnjbabkfdcdkbaaGreatDoor.Lib
end
section
/- Package regret: Match: the contract holds. -/
set_option linter.unusedVariables false
set_option linter.unusedSimpArgs false
namespace Go.Proofs.YtnjbabkfdcdkbaaGreatDoor.Lib
open Go Go.Proofs.YtnjbabkfdcdkbaaGreatDoor.Mach Go.Proofs.YtnjbabkfdcdkbaaGreatDoorW.PrintWords Go.Proofs.YtnjbabkfdcdkbaaGreatDoor.Sem Go.Proofs.YtnjbabkfdcdkbaaGreatDoor.Pure
noncomputable def noneTo (v : List ByteArray) (x : Nat) : Bool := decide (∀ i, i < x → sgn (vent v i) ≤ 0)
noncomputable def posQ (v : List ByteArray) (i : Nat) : Rat := if sgn (vent v i) < 0 then 0 else vent v i
theorem none_zero (v : List ByteArray) : noneTo v 0 = true := decide_eq_true fun i hi => absurd hi (Nat.not_lt_zero _)
theorem none_succ (v : List ByteArray) (x : Nat) : noneTo v (x + 1) = (noneTo v x && decide (sgn (vent v x) ≤ 0)) := by
  unfold noneTo
  by_cases h : ∀ i, i < x → sgn (vent v i) ≤ 0
  · by_cases h2 : sgn (vent v x) ≤ 0
    · rw [decide_eq_true h, decide_eq_true h2, decide_eq_true]; · rfl
      intro i hi
      by_cases hix : i = x
      · rw [hix]; exact h2
      · exact h i (by omega)
    · rw [decide_eq_true h, decide_eq_false h2, decide_eq_false]; · rfl
      exact fun hc => h2 (hc x (by omega))
  · rw [decide_eq_false h, decide_eq_false]; · rfl
    exact fun hc => h fun i hi => hc i (by omega)
theorem wQ_pos {v : List ByteArray} (h : noneP v = false) (i : Nat) : wQ v i = posQ v i := by unfold wQ posQ; rw [h]; rfl
theorem wQ_one {v : List ByteArray} (h : noneP v = true) (i : Nat) : wQ v i = 1 := by unfold wQ; rw [if_pos h]
section
variable {v : List ByteArray} {Q : Res}
theorem sz_vent (h : ratErrs v = 0) {i : Nat} (hi : i < v.length) : Sz 2000 (vent v i) := (num_at h hi).2
theorem sz_one : Sz 20 (1 : Rat) := sz_int 1 (by decide)
theorem sz_wQ (h : ratErrs v = 0) {i : Nat} (hi : i < v.length) : Sz 2000 (wQ v i) := by
  unfold wQ
  split
  · exact sz_one.mono (by decide)
  · split
    · exact sz_zero.mono (by decide)
    · exact sz_vent h hi
theorem mat_con (h : matS v Q) : Con Tryz.prog 13 [.imm eS v] Q := by
  obtain ⟨ht, hq⟩ := h
  refine outI_seal (l := matV v) (n := matE v) ?_ hq
  have bad : ∀ (e : Int) (H : List HObj), matE v = e → e ≠ 0 → resK (outI (matV v) (matE v)) (.tup [.nils, .int .i64 e]) H := fun e H h1 h2 => by
    rw [← h1]
    exact outI_nil (if_neg (by rw [h1]; exact h2))
  refine conN (gn := fnT Tryz.f13) (by kernel_rfl) conG1_ok (inl := []) (LT := rmatch_live) (NT := rmatch_nils) rfl fun n0 => ?_
  rw [rmatch_E]
  by_cases h0 : v.length = 0
  · exact bif_pos (by omega) (bad _ _ (by unfold matE; rw [if_pos h0]) (by decide))
  refine bif_neg (by omega) ?_
  by_cases h12 : 12 < v.length
  · exact bif_pos (by omega) (bad _ _ (by unfold matE; rw [if_neg h0, if_pos h12]) (by decide))
  refine bif_neg (by omega) ⟨ht, ?_⟩
  by_cases hv : vecErr v = 0
  · obtain ⟨_, hr⟩ := vec_ok hv
    refine bif_not (bif_pos hv ⟨⟨hr, by unfold TxN; omega⟩, fun zs hzs => ?_⟩)
    have hE : matE v = vecE v.length (matQ v) := by unfold matE; rw [if_neg h0, if_neg h12, if_neg (fun h => h hv)]
    have hV : matV v = vecV v.length (matQ v) := by unfold matV vecV; rw [hE]
    have szw : SzF 2000 v.length (wQ v) := fun i hi => sz_wQ hr hi
    have szsum : ∀ x, x ≤ v.length → Sz 4000000000 (sumTo (wQ v) x) := fun x hx => (sz_sum szw x hx).mono (by omega)
    -- the last loop
    have loop26 : ∀ z, QV z (sumTo (wQ v) v.length) → ∀ y : Nat × List QT, (y.1 ≤ v.length ∧ QF y.2 v.length (fun j => if j < y.1 then matQ v j else wQ v j)) → GoodL Tryz.prog n0 13 (resK (outI (matV v) (matE v))) (headAt (fnT Tryz.f13) 26) (rmatch_s26_1 v ((v.length : Nat) : Int) (y.1 : Int) y.2 z.1 z.2.1 z.2.2) := fun z hz =>
      loopN (f := 13) (gn := fnT Tryz.f13) (n0 := n0) (r := 26) (by kernel_rfl) conG1_ok (inl := []) (LT := rmatch_live) (NT := rmatch_nils) (K := resK (outI (matV v) (matE v))) (fun y : Nat × List QT => rmatch_s26_1 v ((v.length : Nat) : Int) (y.1 : Int) y.2 z.1 z.2.1 z.2.2) (fun y => v.length - y.1) (fun y => y.1 ≤ v.length ∧ QF y.2 v.length (fun j => if j < y.1 then matQ v j else wQ v j)) (fun y hp ih => by
        obtain ⟨k, zs⟩ := y
        obtain ⟨hk0, hc⟩ := hp
        simp only at hk0 hc
        have hcl := hc.len
        show execN _ _ _ _ _ _ (rmatch_s26_1 v ((v.length : Nat) : Int) (k : Int) zs z.1 z.2.1 z.2.2)
        rw [rmatch_s26_1_E]
        by_cases hk : k < v.length
        · refine bif_pos (by omega) (bif_in (by omega) ?_)
          rw [Int.toNat_natCast, wrS hk (by omega)]
          refine ⟨_, _, hc.mid hk, hz, (szw k hk).mono (by decide), szsum _ (Nat.le_refl _), fun r hr2 => bif_in (by omega) ?_⟩
          exact ih (k + 1, zs.set k r) ⟨by show k + 1 ≤ v.length; omega, hc.step (g := matQ v) hr2⟩ (by show v.length - (k + 1) < v.length - k; omega)
        · have hkw : k = v.length := by omega
          subst hkw
          refine bif_neg (by omega) ⟨_, _, hc.done, by unfold TxN; omega, fun i hi => sz_quo ((szw i hi).mono (by decide)) (szsum _ (Nat.le_refl _)), ?_⟩
          rw [hE, hV]
          exact outI_one)
    have loop19 : ∀ y : Nat × List QT × QT, (y.1 ≤ v.length ∧ QF y.2.1 v.length (fun j => if j < y.1 then wQ v j else posQ v j) ∧ QV y.2.2 (sumTo (wQ v) y.1)) → GoodL Tryz.prog n0 13 (resK (outI (matV v) (matE v))) (headAt (fnT Tryz.f13) 19) (rmatch_s19_4 v (noneP v) ((v.length : Nat) : Int) (y.1 : Int) y.2.1 y.2.2.1 y.2.2.2.1 y.2.2.2.2) :=
      loopN (f := 13) (gn := fnT Tryz.f13) (n0 := n0) (r := 19) (by kernel_rfl) conG1_ok (inl := []) (LT := rmatch_live) (NT := rmatch_nils) (K := resK (outI (matV v) (matE v))) (fun y : Nat × List QT × QT => rmatch_s19_4 v (noneP v) ((v.length : Nat) : Int) (y.1 : Int) y.2.1 y.2.2.1 y.2.2.2.1 y.2.2.2.2) (fun y => v.length - y.1) (fun y => y.1 ≤ v.length ∧ QF y.2.1 v.length (fun j => if j < y.1 then wQ v j else posQ v j) ∧ QV y.2.2 (sumTo (wQ v) y.1)) (fun y hp ih => by
        obtain ⟨k, zs, z⟩ := y
        obtain ⟨hk0, hc, hz⟩ := hp
        simp only at hk0 hc hz
        have hcl := hc.len
        show execN _ _ _ _ _ _ (rmatch_s19_4 v (noneP v) ((v.length : Nat) : Int) (k : Int) zs z.1 z.2.1 z.2.2)
        rw [rmatch_s19_4_E]
        by_cases hk : k < v.length
        · refine bif_pos (by omega) ?_
          rw [Int.toNat_natCast, wrS hk (by omega)]
          have hs : sumTo (wQ v) (k + 1) = sumTo (wQ v) k + wQ v k := rfl
          by_cases hN : noneP v = true
          · refine bif_t hN ⟨⟨by decide, by decide⟩, fun r hr1 => bif_in (by omega) (bif_in (by rw [List.length_set]; omega) ?_)⟩
            have hr1' : QV r (wQ v k) := by rw [wQ_one hN]; exact hr1
            have hst := hc.step (g := wQ v) hr1'
            have hat := hst.at_ k hk
            simp only [Nat.lt_succ_self, if_true] at hat
            refine ⟨_, _, hz, hat, szsum k hk0, (szw k hk).mono (by decide), fun r2 hr2 => ?_⟩
            exact ih (k + 1, zs.set k r, r2) ⟨by show k + 1 ≤ v.length; omega, hst, by rw [hs]; exact hr2⟩ (by show v.length - (k + 1) < v.length - k; omega)
          · refine bif_f hN (bif_in (by omega) ?_)
            have hN' : noneP v = false := by cases h : noneP v with
              | false => rfl
              | true => exact absurd h hN
            have hm := hc.mid hk
            rw [← wQ_pos hN'] at hm
            refine ⟨_, _, hz, hm, szsum k hk0, (szw k hk).mono (by decide), fun r2 hr2 => ?_⟩
            exact ih (k + 1, zs, r2) ⟨by show k + 1 ≤ v.length; omega, hc.congr fun j _ => by
              rw [wQ_pos hN']; split <;> split <;> rfl, by rw [hs]; exact hr2⟩ (by show v.length - (k + 1) < v.length - k; omega)
        · have hkw : k = v.length := by omega
          subst hkw
          refine bif_neg (by omega) ?_
          rw [hcl]
          exact loop26 z hz (0, zs) ⟨Nat.zero_le _, hc.done.begin⟩)
    have loop11 := loopN (f := 13) (gn := fnT Tryz.f13) (n0 := n0) (r := 11) (by kernel_rfl) conG1_ok (inl := []) (LT := rmatch_live) (NT := rmatch_nils) (K := resK (outI (matV v) (matE v))) (fun y : Nat × List QT => rmatch_s11_1 v (noneTo v y.1) ((v.length : Nat) : Int) (y.1 : Int) y.2) (fun y => v.length - y.1) (fun y => y.1 ≤ v.length ∧ QF y.2 v.length (fun j => if j < y.1 then posQ v j else vent v j)) (fun y hp ih => by
        obtain ⟨k, zs⟩ := y
        obtain ⟨hk0, hc⟩ := hp
        simp only at hk0 hc
        have hcl := hc.len
        show execN _ _ _ _ _ _ (rmatch_s11_1 v (noneTo v k) ((v.length : Nat) : Int) (k : Int) zs)
        rw [rmatch_s11_1_E]
        by_cases hk : k < v.length
        · refine bif_pos (by omega) (bif_in (by omega) ?_)
          rw [Int.toNat_natCast, wrS hk (by omega)]
          have hm := hc.mid hk
          have ns := none_succ v k
          have next : ∀ zs', QF zs' v.length (fun j => if j < k + 1 then posQ v j else vent v j) → ∀ b, b = noneTo v (k + 1) → GoodL Tryz.prog n0 13 (resK (outI (matV v) (matE v))) (headAt (fnT Tryz.f13) 11) (rmatch_s11_1 v b ((v.length : Nat) : Int) ((k + 1 : Nat) : Int) zs') := fun zs' h b hb => by
            rw [hb]
            exact ih (k + 1, zs') ⟨by show k + 1 ≤ v.length; omega, h⟩ (by show v.length - (k + 1) < v.length - k; omega)
          refine ⟨_, hm, ?_⟩
          by_cases hneg : sgn (vent v k) < 0
          · refine bif_pos hneg (bif_in (by omega) ?_)
            have hst : QF (zs.set k z0) v.length (fun j => if j < k + 1 then posQ v j else vent v j) := hc.step (g := posQ v) (by unfold posQ; rw [if_pos hneg]; exact QV.zero)
            by_cases hN : noneTo v k = true
            · exact bif_t hN ⟨_, hm, next _ hst _ (by rw [ns, hN, cond_true, Bool.true_and])⟩
            · refine bif_f hN (next _ hst false ?_)
              rw [ns]
              cases h : noneTo v k with
              | false => rfl
              | true => exact absurd h hN
          · refine bif_neg hneg ?_
            have hst : QF zs v.length (fun j => if j < k + 1 then posQ v j else vent v j) := hc.congr fun j _ => by
              by_cases hj : j = k
              · subst hj
                rw [if_neg (Nat.lt_irrefl _), if_pos (by omega)]
                unfold posQ; rw [if_neg hneg]
              · by_cases h1 : j < k
                · rw [if_pos h1, if_pos (by omega)]
                · rw [if_neg h1, if_neg (by omega)]
            by_cases hN : noneTo v k = true
            · exact bif_t hN ⟨_, hm, next _ hst _ (by rw [ns, hN, cond_true, Bool.true_and])⟩
            · refine bif_f hN (next _ hst false ?_)
              rw [ns]
              cases h : noneTo v k with
              | false => rfl
              | true => exact absurd h hN
        · have hkw : k = v.length := by omega
          subst hkw
          refine bif_neg (by omega) ?_
          rw [hcl]
          exact wk_good (WkS.same _) (.cons (.refl _) (.cons (.box (.cons (.refl _) (.cons (.nil eW) (.cons (.nil eW) .nil)))) .nil)) (loop19 (0, zs, z0) ⟨Nat.zero_le _, hc.done.begin, QV.zero⟩))
    have st := loop11 (0, zs) ⟨Nat.zero_le _, hzs.begin⟩
    simp only [none_zero] at st
    rw [hzs.len]
    exact st
  · exact bif_not (bif_neg hv (bad _ _ (by unfold matE; rw [if_neg h0, if_neg h12, if_pos hv]) hv))
end
end Go.Proofs.YtnjbabkfdcdkbaaGreatDoor.Lib
end
section
/- Package regret: Play: the contract holds. -/
set_option linter.unusedVariables false
set_option linter.unusedSimpArgs false
namespace Go.Proofs.YtnjbabkfdcdkbaaGreatDoor.Lib
open Go Go.Proofs.YtnjbabkfdcdkbaaGreatDoor.Mach Go.Proofs.YtnjbabkfdcdkbaaGreatDoorW.PrintWords Go.Proofs.YtnjbabkfdcdkbaaGreatDoor.Sem Go.Proofs.YtnjbabkfdcdkbaaGreatDoor.Pure
section
variable {F : Nat → Nat → Rat} {n w : Nat}
theorem best_lt (f : Nat → Rat) (n0 : 0 < n) : ∀ k, k ≤ n → bestTo f k < n
  | 0, _ => n0
  | k + 1, h => by
    unfold bestTo
    split
    · omega
    · exact best_lt f n0 k (by omega)
theorem least_lt (f : Nat → Rat) (n0 : 0 < n) : ∀ k, k ≤ n → leastTo f k < n
  | 0, _ => n0
  | k + 1, h => by
    unfold leastTo
    split
    · omega
    · exact least_lt f n0 k (by omega)
theorem playL_len (T : Nat) : (playL F n w T).length = T := by
  induction T with
  | zero => rfl
  | succ T ih => rw [playL, List.length_append, ih]; rfl
noncomputable def rpQ (F : Nat → Nat → Rat) (n w T : Nat) : Nat → Rat := rowsQ F (playL F n w T) T
noncomputable def cpQ (F : Nat → Nat → Rat) (n w T : Nat) : Nat → Rat := colsQ F (playL F n w T) T
theorem playL_in (n0 : 0 < n) (w0 : 0 < w) : ∀ T t, t < (playL F n w T).length → inGB n w ((playL F n w T).getD t p0) = true
  | 0, t, h => absurd h (Nat.not_lt_zero _)
  | T + 1, t, h => by
    rw [playL_len] at h
    rw [playL, getD_snoc, playL_len]
    by_cases h1 : t < T
    · rw [if_pos h1]; exact playL_in n0 w0 T t (by rw [playL_len]; exact h1)
    · rw [if_neg h1, if_pos (by omega)]
      have b1 := best_lt (rowsQ F (playL F n w T) T) n0 n (Nat.le_refl _)
      have b2 := least_lt (colsQ F (playL F n w T) T) w0 w (Nat.le_refl _)
      exact inG_of (by show 0 ≤ ((bestTo _ _ : Nat) : Int); omega) (by show ((bestTo _ _ : Nat) : Int) < n; omega) (by show 0 ≤ ((leastTo _ _ : Nat) : Int); omega) (by show ((leastTo _ _ : Nat) : Int) < w; omega)
theorem sumTo_eq {f g : Nat → Rat} : ∀ x, (∀ t, t < x → f t = g t) → sumTo f x = sumTo g x
  | 0, _ => rfl
  | x + 1, h => by
    show sumTo f x + f x = sumTo g x + g x
    rw [sumTo_eq x fun t ht => h t (by omega), h x (by omega)]
theorem rows_snoc (l : List (Int × Int)) (a : Int × Int) (i : Nat) {x : Nat} (hx : l.length = x) : rowsQ F (l ++ [a]) (x + 1) i = rowsQ F l x i + F i a.2.toNat := by
  show sumTo _ x + F i ((l ++ [a]).getD x p0).2.toNat = _
  rw [getD_snoc, if_neg (by omega), if_pos hx.symm]
  congr 1
  exact sumTo_eq x fun t ht => by simp only [getD_snoc, if_pos (show t < l.length by omega)]
theorem cols_snoc (l : List (Int × Int)) (a : Int × Int) (k : Nat) {x : Nat} (hx : l.length = x) : colsQ F (l ++ [a]) (x + 1) k = colsQ F l x k + F a.1.toNat k := by
  show sumTo _ x + F ((l ++ [a]).getD x p0).1.toNat k = _
  rw [getD_snoc, if_neg (by omega), if_pos hx.symm]
  congr 1
  exact sumTo_eq x fun t ht => by simp only [getD_snoc, if_pos (show t < l.length by omega)]
theorem rp_succ (T i : Nat) : rpQ F n w (T + 1) i = rpQ F n w T i + F i (leastTo (cpQ F n w T) w) := by
  unfold rpQ cpQ
  rw [playL, rows_snoc _ _ _ (playL_len T), Int.toNat_natCast]
theorem cp_succ (T k : Nat) : cpQ F n w (T + 1) k = cpQ F n w T k + F (bestTo (rpQ F n w T) n) k := by
  unfold rpQ cpQ
  rw [playL, cols_snoc _ _ _ (playL_len T), Int.toNat_natCast]
theorem sz_rp (n0 : 0 < n) (w0 : 0 < w) (sz : ∀ i k, i < n → k < w → Sz 2000 (F i k)) {T : Nat} (hT : T ≤ 200) {i : Nat} (hi : i < n) : Sz 4000000000 (rpQ F n w T i) :=
  (sz_rows (playL_in n0 w0 T) sz hi (by rw [playL_len]; exact Nat.le_refl _)).mono (by omega)
theorem sz_cp (n0 : 0 < n) (w0 : 0 < w) (sz : ∀ i k, i < n → k < w → Sz 2000 (F i k)) {T : Nat} (hT : T ≤ 200) {k : Nat} (hk : k < w) : Sz 4000000000 (cpQ F n w T k) :=
  (sz_cols (playL_in n0 w0 T) sz hk (by rw [playL_len]; exact Nat.le_refl _)).mono (by omega)
end
section
variable {m : List (List ByteArray)} {n : Int} {Q : Res}
theorem play_con (h : playS m n Q) : Con Tryz.prog 20 [.imm (eL eS) m, .int .i64 n] Q := by
  obtain ⟨ht, hq⟩ := h
  refine outL_seal (e := eP) (l := playV m n) (n := playE m n) ?_ hq
  have bad : ∀ (e : Int) (H : List HObj), playE m n = e → e ≠ 0 → resK (outL eP (playV m n) (playE m n)) (.tup [.nils, .int .i64 e]) H := fun e H h1 h2 => by
    rw [← h1]
    exact outL_nil (if_neg (by rw [h1]; exact h2))
  refine conN (gn := fnT Tryz.f20) (by kernel_rfl) conG1_ok (inl := []) (LT := rplay_live) (NT := rplay_nils) rfl fun n0 => ?_
  rw [rplay_E]
  refine ⟨ht, ?_⟩
  by_cases hG : gameErr m = 0
  · refine bif_not (bif_pos hG ?_)
    by_cases c1 : n < 0
    · exact bif_pos c1 (bad _ _ (by unfold playE; rw [if_neg (fun h => h hG), if_pos (.inl c1)]) (by decide))
    refine bif_neg c1 ?_
    by_cases c2 : n > 200
    · exact bif_op c2 (bad _ _ (by unfold playE; rw [if_neg (fun h => h hG), if_pos (.inr c2)]) (by decide))
    have hE : playE m n = 0 := by unfold playE; rw [if_neg (fun h => h hG), if_neg (by omega)]
    have hV : playV m n = playL (ent m) m.length (wide m) n.toNat := by unfold playV; rw [if_pos hE]
    obtain ⟨M, m0, m12, w0, w12⟩ := game_ok hG
    have hM : matErr m = 0 := by
      unfold gameErr at hG
      split at hG
      · cases hG
      · split at hG
        · rename_i h2; exact absurd hG h2
        · rename_i h2; exact Decidable.not_not.1 h2
    refine bif_on c2 ⟨hM, fun g hg => ?_⟩
    have sz : ∀ i k, i < m.length → k < wide m → Sz 2000 (ent m i k) := fun i k hi hk => (M.ent i k hi hk).2
    have hgl := hg.len
    have hg0 := (hg.at_ 0 m0).len
    have main := loopN (f := 20) (gn := fnT Tryz.f20) (n0 := n0) (r := 10) (by kernel_rfl) conG1_ok (inl := []) (LT := rplay_live) (NT := rplay_nils) (K := resK (outL eP (playV m n) (playE m n))) (fun y : Nat × List QT × List QT => rplay_s10_0 m n (y.1 : Int) g y.2.1 y.2.2 (playL (ent m) m.length (wide m) y.1)) (fun y => n.toNat - y.1) (fun y => y.1 ≤ n.toNat ∧ QF y.2.1 m.length (rpQ (ent m) m.length (wide m) y.1) ∧ QF y.2.2 (wide m) (cpQ (ent m) m.length (wide m) y.1)) (fun y hp ih => by
      obtain ⟨T, zr, zc⟩ := y
      obtain ⟨hT0, hr, hc⟩ := hp
      simp only at hT0 hr hc
      have hrl := hr.len
      have hcl := hc.len
      show execN _ _ _ _ _ _ (rplay_s10_0 m n (T : Int) g zr zc (playL (ent m) m.length (wide m) T))
      rw [rplay_s10_0_E]
      by_cases hT : T < n.toNat
      · have hT200 : T ≤ 200 := by omega
        refine bif_pos (by omega) ?_
        have szr : ∀ i, i < m.length → Sz 4000000000 (rpQ (ent m) m.length (wide m) T i) := fun i hi => sz_rp m0 w0 sz hT200 hi
        have szc : ∀ k, k < wide m → Sz 4000000000 (cpQ (ent m) m.length (wide m) T k) := fun k hk => sz_cp m0 w0 sz hT200 hk
        have rs := rp_succ (F := ent m) (n := m.length) (w := wide m) T
        have cs := cp_succ (F := ent m) (n := m.length) (w := wide m) T
        have hpl : playL (ent m) m.length (wide m) (T + 1) = playL (ent m) m.length (wide m) T ++ [(((bestTo (rpQ (ent m) m.length (wide m) T) m.length : Nat) : Int), ((leastTo (cpQ (ent m) m.length (wide m) T) (wide m) : Nat) : Int))] := rfl
        have hlen := playL_len (F := ent m) (n := m.length) (w := wide m) T
        have bl := fun k (hk : k ≤ m.length) => best_lt (rpQ (ent m) m.length (wide m) T) m0 k hk
        have ll := fun k (hk : k ≤ wide m) => least_lt (cpQ (ent m) m.length (wide m) T) w0 k hk
        have bs : ∀ k, bestTo (rpQ (ent m) m.length (wide m) T) (k + 1) = if 0 < sgn (rpQ (ent m) m.length (wide m) T k - rpQ (ent m) m.length (wide m) T (bestTo (rpQ (ent m) m.length (wide m) T) k)) then k else bestTo (rpQ (ent m) m.length (wide m) T) k := fun k => rfl
        have ls : ∀ k, leastTo (cpQ (ent m) m.length (wide m) T) (k + 1) = if sgn (cpQ (ent m) m.length (wide m) T k - cpQ (ent m) m.length (wide m) T (leastTo (cpQ (ent m) m.length (wide m) T) k)) < 0 then k else leastTo (cpQ (ent m) m.length (wide m) T) k := fun k => rfl
        have b0 : bestTo (rpQ (ent m) m.length (wide m) T) 0 = 0 := rfl
        have l0 : leastTo (cpQ (ent m) m.length (wide m) T) 0 = 0 := rfl
        generalize hf' : rpQ (ent m) m.length (wide m) (T + 1) = f' at *
        generalize hh' : cpQ (ent m) m.length (wide m) (T + 1) = h' at *
        generalize rpQ (ent m) m.length (wide m) T = f at *
        generalize cpQ (ent m) m.length (wide m) T = h at *
        have bN := bl m.length (Nat.le_refl _)
        have lN := ll (wide m) (Nat.le_refl _)
        -- the columns' sums
        have loop30 : ∀ zr, QF zr m.length f' → ∀ y : Nat × List QT, (y.1 ≤ wide m ∧ QF y.2 (wide m) (fun j => if j < y.1 then h' j else h j)) → GoodL Tryz.prog n0 20 (resK (outL eP (playV m n) (playE m n))) (headAt (fnT Tryz.f20) 30) (rplay_s30_0 m n (T : Int) ((wide m : Nat) : Int) (y.1 : Int) g zr y.2 (playL (ent m) m.length (wide m) T) [((bestTo f m.length : Nat) : Int), ((leastTo h (wide m) : Nat) : Int)]) := fun zr hr =>
          loopN (f := 20) (gn := fnT Tryz.f20) (n0 := n0) (r := 30) (by kernel_rfl) conG1_ok (inl := []) (LT := rplay_live) (NT := rplay_nils) (K := resK (outL eP (playV m n) (playE m n))) (fun y : Nat × List QT => rplay_s30_0 m n (T : Int) ((wide m : Nat) : Int) (y.1 : Int) g zr y.2 (playL (ent m) m.length (wide m) T) [((bestTo f m.length : Nat) : Int), ((leastTo h (wide m) : Nat) : Int)]) (fun y => wide m - y.1) (fun y => y.1 ≤ wide m ∧ QF y.2 (wide m) (fun j => if j < y.1 then h' j else h j)) (fun y hp ih2 => by
            obtain ⟨k, zc⟩ := y
            obtain ⟨hk0, hc⟩ := hp
            simp only at hk0 hc
            have hcl := hc.len
            show execN _ _ _ _ _ _ (rplay_s30_0 m n (T : Int) ((wide m : Nat) : Int) (k : Int) g zr zc _ _)
            rw [rplay_s30_0_E]
            by_cases hk : k < wide m
            · have hgr := hg.at_ (bestTo f m.length) bN
              have hgrl := hgr.len
              refine bif_pos (by omega) (bif_in (by omega) (bif_t rfl (bif_in (show bestTo f m.length < g.length by omega) (bif_in (show k < (g.getD (Int.toNat ((bestTo f m.length : Nat) : Int)) []).length by rw [Int.toNat_natCast]; omega) ?_))))
              rw [Int.toNat_natCast, wrS hk (by omega)]
              refine ⟨_, _, hc.mid hk, hgr.at_ k hk, szc k hk, (sz _ _ bN hk).mono (by decide), fun r hr2 => bif_in (by omega) ?_⟩
              exact ih2 (k + 1, zc.set k r) ⟨by show k + 1 ≤ wide m; omega, hc.step (g := h') (by rw [cs]; exact hr2)⟩ (by show wide m - (k + 1) < wide m - k; omega)
            · have hkw : k = wide m := by omega
              rw [hkw] at hc
              refine bif_neg (by omega) (bif_t rfl (bif_t (roomN (len_snoc hlen (by omega)) (by decide)) ?_))
              rw [wrS hT (by omega)]
              have := ih (T + 1, zr, zc) ⟨by show T + 1 ≤ n.toNat; omega, by rw [hf']; exact hr, by rw [hh']; exact hc.done⟩ (by show n.toNat - (T + 1) < n.toNat - T; omega)
              simp only [hpl] at this
              exact this)
        have loop25 : ∀ zc, QF zc (wide m) h → ∀ y : Nat × List QT, (y.1 ≤ m.length ∧ QF y.2 m.length (fun j => if j < y.1 then f' j else f j)) → GoodL Tryz.prog n0 20 (resK (outL eP (playV m n) (playE m n))) (headAt (fnT Tryz.f20) 25) (rplay_s25_0 m n (T : Int) ((m.length : Nat) : Int) (y.1 : Int) g y.2 zc (playL (ent m) m.length (wide m) T) [((bestTo f m.length : Nat) : Int), ((leastTo h (wide m) : Nat) : Int)]) := fun zc hc =>
          loopN (f := 20) (gn := fnT Tryz.f20) (n0 := n0) (r := 25) (by kernel_rfl) conG1_ok (inl := []) (LT := rplay_live) (NT := rplay_nils) (K := resK (outL eP (playV m n) (playE m n))) (fun y : Nat × List QT => rplay_s25_0 m n (T : Int) ((m.length : Nat) : Int) (y.1 : Int) g y.2 zc (playL (ent m) m.length (wide m) T) [((bestTo f m.length : Nat) : Int), ((leastTo h (wide m) : Nat) : Int)]) (fun y => m.length - y.1) (fun y => y.1 ≤ m.length ∧ QF y.2 m.length (fun j => if j < y.1 then f' j else f j)) (fun y hp ih2 => by
            obtain ⟨k, zr⟩ := y
            obtain ⟨hk0, hr⟩ := hp
            simp only at hk0 hr
            have hrl := hr.len
            have hcl := hc.len
            show execN _ _ _ _ _ _ (rplay_s25_0 m n (T : Int) ((m.length : Nat) : Int) (k : Int) g zr zc _ _)
            rw [rplay_s25_0_E]
            by_cases hk : k < m.length
            · have hgr := hg.at_ k hk
              have hgrl := hgr.len
              refine bif_pos (by omega) (bif_in (by omega) (bif_in (by omega) (bif_t rfl (bif_in (show leastTo h (wide m) < (g.getD ((k : Int).toNat) []).length by rw [Int.toNat_natCast]; omega) ?_))))
              rw [Int.toNat_natCast, wrS hk (by omega)]
              refine ⟨_, _, hr.mid hk, hgr.at_ (leastTo h (wide m)) lN, szr k hk, (sz _ _ hk lN).mono (by decide), fun r hr2 => bif_in (by omega) ?_⟩
              exact ih2 (k + 1, zr.set k r) ⟨by show k + 1 ≤ m.length; omega, hr.step (g := f') (by rw [rs]; exact hr2)⟩ (by show m.length - (k + 1) < m.length - k; omega)
            · have hkw : k = m.length := by omega
              rw [hkw] at hr
              refine bif_neg (by omega) ?_
              rw [hcl]
              exact loop30 zr hr.done (0, zc) ⟨Nat.zero_le _, hc.begin⟩)
        have loop19 := loopN (f := 20) (gn := fnT Tryz.f20) (n0 := n0) (r := 19) (by kernel_rfl) conG1_ok (inl := []) (LT := rplay_live) (NT := rplay_nils) (K := resK (outL eP (playV m n) (playE m n))) (fun k : Nat => rplay_s19_0 m n (T : Int) ((wide m : Nat) : Int) (k : Int) g zr zc (playL (ent m) m.length (wide m) T) [((bestTo f m.length : Nat) : Int), ((leastTo h k : Nat) : Int)]) (fun k => wide m - k) (fun k => k ≤ wide m) (fun k hk0 ih2 => by
            rw [rplay_s19_0_E]
            by_cases hk : k < wide m
            · have lk := ll k hk0
              refine bif_pos (by omega) (bif_in (by omega) (bif_t rfl (bif_in (show leastTo h k < zc.length by omega) ?_)))
              rw [Int.toNat_natCast, wrS hk (by omega)]
              refine ⟨_, _, hc.at_ k hk, hc.at_ (leastTo h k) lk, szc k hk, szc _ lk, ?_⟩
              have ih3 := ih2 (k + 1) (by omega) (by omega)
              rw [ls] at ih3
              by_cases hs : sgn (h k - h (leastTo h k)) < 0
              · rw [if_pos hs] at ih3
                exact bif_pos hs (bif_t rfl ih3)
              · rw [if_neg hs] at ih3
                exact bif_neg hs ih3
            · have hkw : k = wide m := by omega
              subst hkw
              refine bif_neg (by omega) ?_
              rw [hrl]
              exact loop25 zc hc (0, zr) ⟨Nat.zero_le _, hr.begin⟩)
        have loop13 := loopN (f := 20) (gn := fnT Tryz.f20) (n0 := n0) (r := 13) (by kernel_rfl) conG1_ok (inl := []) (LT := rplay_live) (NT := rplay_nils) (K := resK (outL eP (playV m n) (playE m n))) (fun k : Nat => rplay_s13_0 m n (T : Int) ((m.length : Nat) : Int) (k : Int) g zr zc (playL (ent m) m.length (wide m) T) [((bestTo f k : Nat) : Int), 0]) (fun k => m.length - k) (fun k => k ≤ m.length) (fun k hk0 ih2 => by
            rw [rplay_s13_0_E]
            by_cases hk : k < m.length
            · have lk := bl k hk0
              refine bif_pos (by omega) (bif_in (by omega) (bif_t rfl (bif_in (show bestTo f k < zr.length by omega) ?_)))
              rw [Int.toNat_natCast, wrS hk (by omega)]
              refine ⟨_, _, hr.at_ k hk, hr.at_ (bestTo f k) lk, szr k hk, szr _ lk, ?_⟩
              have ih3 := ih2 (k + 1) (by omega) (by omega)
              rw [bs] at ih3
              by_cases hs : 0 < sgn (f k - f (bestTo f k))
              · rw [if_pos hs] at ih3
                exact bif_pos hs (bif_t rfl ih3)
              · rw [if_neg hs] at ih3
                exact bif_neg hs ih3
            · have hkw : k = m.length := by omega
              subst hkw
              refine bif_neg (by omega) ?_
              rw [hcl]
              have := loop19 0 (Nat.zero_le _)
              simp only [l0] at this
              exact this)
        rw [hrl]
        have := loop13 0 (Nat.zero_le _)
        simp only [b0] at this
        exact this
      · have hTT : T = n.toNat := by omega
        refine bif_neg (by omega) ?_
        rw [hTT, ← hV, ← hE]
        exact outL_own rfl)
    have start : GoodL Tryz.prog n0 20 (resK (outL eP (playV m n) (playE m n))) (headAt (fnT Tryz.f20) 10) (rplay_s10_0 m n ((0 : Nat) : Int) g (List.replicate g.length z0) (List.replicate (g.getD 0 []).length z0) []) :=
      main (0, List.replicate g.length z0, List.replicate (g.getD 0 []).length z0) ⟨Nat.zero_le _, by rw [hgl]; exact QF.zeros m.length, by rw [hg0]; exact QF.zeros (wide m)⟩
    have k1 := makeN (n := g.length) (b := 56) (by omega) (by decide)
    have k2 := makeN (n := (g.getD 0 []).length) (b := 56) (by omega) (by decide)
    simp only [Int.toNat_natCast] at k1 k2 ⊢
    exact bif_pos (by omega) ⟨bif_t k2 (bif_t k1 start), bif_t k1 (bif_t k2 start)⟩
  · exact bif_not (bif_neg hG (bad _ _ (by unfold playE; rw [if_pos hG]) hG))
end
end Go.Proofs.YtnjbabkfdcdkbaaGreatDoor.Lib
end
section
/- Equations of functions (printed). -/
namespace Go.Proofs.YtnjbabkfdcdkbaaGreatDoor.Mach
open Go Go.Proofs.YtnjbabkfdcdkbaaGreatDoor Go.Proofs.YtnjbabkfdcdkbaaGreatDoor.Lib
set_option linter.unusedVariables false
def wregs_live : List (Nat × List Nat) := [(16, [0, 1, 5, 6, 77, 78]), (20, [0, 1, 5, 6, 9, 10, 77, 78, 81, 82, 83]), (28, [0, 1, 6, 116, 117]), (32, [0, 1, 6, 13, 14, 116, 117, 120, 121, 122])]
def wregs_nils : List (Nat × ETy) := [(5, ETy.one CTy.str), (6, ETy.one CTy.str), (81, ETy.more (CTy.int IntKind.i64) (ETy.one (CTy.int IntKind.i64))), (120, ETy.more (CTy.int IntKind.i64) (ETy.one (CTy.int IntKind.i64)))]
noncomputable def wregs_s16_0 (m : List (List ByteArray)) (l : List (Int × Int)) (x0 : List ByteArray) (x1 : List ByteArray) (x2 : Int) (x3 : Int) : St := stOf 154 [(0, AV.imm (ETy.one (CTy.slice (ETy.one CTy.str))) m), (1, AV.imm (ETy.more (CTy.int IntKind.i64) (ETy.one (CTy.int IntKind.i64))) l), (5, AV.imm (ETy.one CTy.str) x0), (6, AV.imm (ETy.one CTy.str) x1), (77, AV.int IntKind.i64 x2), (78, AV.int IntKind.i64 x3)] []
noncomputable def wregs_s20_0 (m : List (List ByteArray)) (l : List (Int × Int)) (x0 : List ByteArray) (x1 : List ByteArray) (x2 : Int) (x3 : ByteArray) (x4 : Int) (x5 : Int) (x6 : Int) (x7 : Int) : St := stOf 154 [(0, AV.imm (ETy.one (CTy.slice (ETy.one CTy.str))) m), (1, AV.imm (ETy.more (CTy.int IntKind.i64) (ETy.one (CTy.int IntKind.i64))) l), (5, AV.imm (ETy.one CTy.str) x0), (6, AV.imm (ETy.one CTy.str) x1), (9, AV.int IntKind.i64 x2), (10, AV.str x3), (77, AV.int IntKind.i64 x4), (78, AV.int IntKind.i64 x5), (81, AV.imm (ETy.more (CTy.int IntKind.i64) (ETy.one (CTy.int IntKind.i64))) l), (82, AV.int IntKind.i64 x6), (83, AV.int IntKind.i64 x7)] []
noncomputable def wregs_s28_0 (m : List (List ByteArray)) (l : List (Int × Int)) (x0 : List ByteArray) (x1 : Int) (x2 : Int) : St := stOf 154 [(0, AV.imm (ETy.one (CTy.slice (ETy.one CTy.str))) m), (1, AV.imm (ETy.more (CTy.int IntKind.i64) (ETy.one (CTy.int IntKind.i64))) l), (6, AV.imm (ETy.one CTy.str) x0), (116, AV.int IntKind.i64 x1), (117, AV.int IntKind.i64 x2)] []
noncomputable def wregs_s32_0 (m : List (List ByteArray)) (l : List (Int × Int)) (x0 : List ByteArray) (x1 : Int) (x2 : ByteArray) (x3 : Int) (x4 : Int) (x5 : Int) (x6 : Int) : St := stOf 154 [(0, AV.imm (ETy.one (CTy.slice (ETy.one CTy.str))) m), (1, AV.imm (ETy.more (CTy.int IntKind.i64) (ETy.one (CTy.int IntKind.i64))) l), (6, AV.imm (ETy.one CTy.str) x0), (13, AV.int IntKind.i64 x1), (14, AV.str x2), (116, AV.int IntKind.i64 x3), (117, AV.int IntKind.i64 x4), (120, AV.imm (ETy.more (CTy.int IntKind.i64) (ETy.one (CTy.int IntKind.i64))) l), (121, AV.int IntKind.i64 x5), (122, AV.int IntKind.i64 x6)] []
set_option maxRecDepth 1000000 in
theorem wregs_E (m : List (List ByteArray)) (l : List (Int × Int)) (n0 : Nat) (K : AV → List HObj → Prop) :
    execN tab (mixE tab conG3 [] 400) (maskN wregs_live wregs_nils (GoodL Tryz.prog n0 3 K)) (finK tab (fnT Tryz.f3).res K) 400 [.code (fnT Tryz.f3).body] ⟨initEnv (fnT Tryz.f3).n [AV.imm (ETy.one (CTy.slice (ETy.one CTy.str))) m, AV.imm (ETy.more (CTy.int IntKind.i64) (ETy.one (CTy.int IntKind.i64))) l], []⟩ =
    ((m.length ≤ 1000000000000000 ∧ ∀ (r : List ByteArray), r ∈ m → r.length ≤ 1000000000000000) ∧ ∀ (n : Int), bif decide (n > 6000) then K (AV.bool true) [] else (TxM m ∧ TxP l.length) ∧ (TxM m ∧ TxP l.length) ∧ (TxM m ∧ TxP l.length) ∧ bif !decide (histErr m l = histErr m l) then K (AV.bool false) [] else bif !decide (histErr m l = 0) then bif decide (regE m l = histErr m l) then K (AV.bool (bif true then decide (IntKind.i64.wrap ((↑(regVA m l).length : Int) + (↑(regVB m l).length : Int)) = 0) else false)) [] else K (AV.bool false) [] else TxMM [m] ∧ bif vastV 5 [m] then K (AV.bool true) [HObj.typed (ETy.one (CTy.slice (ETy.one (CTy.slice (ETy.one CTy.str))))) [m] false] else bif bif false then true else decide ((↑l.length : Int) > 30) then K (AV.bool true) [HObj.typed (ETy.one (CTy.slice (ETy.one (CTy.slice (ETy.one CTy.str))))) [m] false] else bif !decide (regE m l = 0) then K (AV.bool false) [HObj.typed (ETy.one (CTy.slice (ETy.one (CTy.slice (ETy.one CTy.str))))) [m] false] else bif bif false then true else !decide ((↑(regVA m l).length : Int) = (↑m.length : Int)) then K (AV.bool false) [HObj.typed (ETy.one (CTy.slice (ETy.one (CTy.slice (ETy.one CTy.str))))) [m] false] else bif decide (0 < (↑m.length : Int)) then bif bif false then true else !decide ((↑(regVB m l).length : Int) = (↑(List.length (m.getD 0 [])) : Int)) then K (AV.bool false) [HObj.typed (ETy.one (CTy.slice (ETy.one (CTy.slice (ETy.one CTy.str))))) [m] false] else GoodL Tryz.prog n0 3 K (headAt (fnT Tryz.f3) 16) (wregs_s16_0 m l (regVA m l) (regVB m l) (↑(regVA m l).length : Int) 0) else False) := by kernel_rfl
set_option maxRecDepth 1000000 in
theorem wregs_s16_0_E (m : List (List ByteArray)) (l : List (Int × Int)) (x0 : List ByteArray) (x1 : List ByteArray) (x2 : Int) (x3 : Int) (n0 : Nat) (K : AV → List HObj → Prop) :
    execN tab (mixE tab conG3 [] 400) (maskN wregs_live wregs_nils (GoodL Tryz.prog n0 3 K)) (finK tab (fnT Tryz.f3).res K) 400 (roundAt (fnT Tryz.f3) 16) (wregs_s16_0 m l x0 x1 x2 x3) =
    (bif decide (x3 < x2) then GoodL Tryz.prog n0 3 K (headAt (fnT Tryz.f3) 20) (wregs_s20_0 m l x0 x1 x3 (ByteArray.mk #[48]) x2 x3 (↑l.length : Int) 0) else GoodL Tryz.prog n0 3 K (headAt (fnT Tryz.f3) 28) (wregs_s28_0 m l x1 (↑x1.length : Int) 0)) := by kernel_rfl
set_option maxRecDepth 1000000 in
theorem wregs_s20_0_E (m : List (List ByteArray)) (l : List (Int × Int)) (x0 : List ByteArray) (x1 : List ByteArray) (x2 : Int) (x3 : ByteArray) (x4 : Int) (x5 : Int) (x6 : Int) (x7 : Int) (n0 : Nat) (K : AV → List HObj → Prop) :
    execN tab (mixE tab conG3 [] 400) (maskN wregs_live wregs_nils (GoodL Tryz.prog n0 3 K)) (finK tab (fnT Tryz.f3).res K) 400 (roundAt (fnT Tryz.f3) 20) (wregs_s20_0 m l x0 x1 x2 x3 x4 x5 x6 x7) =
    (bif decide (x7 < x6) then bif decide (0 ≤ x7) && decide (x7 < (↑l.length : Int)) then bif decide (0 ≤ x2) && decide (x2 < (↑m.length : Int)) then bif decide (0 ≤ [(l.getD x7.toNat (0, 0)).1, (l.getD x7.toNat (0, 0)).2].getD 1 0) && decide ([(l.getD x7.toNat (0, 0)).1, (l.getD x7.toNat (0, 0)).2].getD 1 0 < (↑(List.length (m.getD x2.toNat [])) : Int)) then bif decide (0 ≤ [(l.getD x7.toNat (0, 0)).1, (l.getD x7.toNat (0, 0)).2].getD 0 0) && decide ([(l.getD x7.toNat (0, 0)).1, (l.getD x7.toNat (0, 0)).2].getD 0 0 < (↑m.length : Int)) then bif decide (0 ≤ [(l.getD x7.toNat (0, 0)).1, (l.getD x7.toNat (0, 0)).2].getD 1 0) && decide ([(l.getD x7.toNat (0, 0)).1, (l.getD x7.toNat (0, 0)).2].getD 1 0 < (↑(List.length (m.getD (Int.toNat ([(l.getD x7.toNat (0, 0)).1, (l.getD x7.toNat (0, 0)).2].getD 0 0)) [])) : Int)) then ∃ x y, List.getD (m.getD x2.toNat []) (Int.toNat ([(l.getD x7.toNat (0, 0)).1, (l.getD x7.toNat (0, 0)).2].getD 1 0)) ByteArray.empty = Sem.ratText x ∧ List.getD (m.getD (Int.toNat ([(l.getD x7.toNat (0, 0)).1, (l.getD x7.toNat (0, 0)).2].getD 0 0)) []) (Int.toNat ([(l.getD x7.toNat (0, 0)).1, (l.getD x7.toNat (0, 0)).2].getD 1 0)) ByteArray.empty = Sem.ratText y ∧ Sz 4000000000 x ∧ Sz 4000000000 y ∧ ∃ x_1 y_1, x3 = Sem.ratText x_1 ∧ Sem.ratText (x - y) = Sem.ratText y_1 ∧ Sz 4000000000 x_1 ∧ Sz 4000000000 y_1 ∧ GoodL Tryz.prog n0 3 K (headAt (fnT Tryz.f3) 20) (wregs_s20_0 m l x0 x1 x2 (Sem.ratText (x_1 + y_1)) x4 x5 x6 (IntKind.i64.wrap (x7 + 1))) else False else False else False else False else False else bif decide (0 ≤ x2) && decide (x2 < (↑x0.length : Int)) then bif !ByteArray.toList (x0.getD x2.toNat ByteArray.empty) == x3.toList then K (AV.bool false) [] else GoodL Tryz.prog n0 3 K (headAt (fnT Tryz.f3) 16) (wregs_s16_0 m l x0 x1 x4 (IntKind.i64.wrap (x5 + 1))) else False) := by kernel_rfl
set_option maxRecDepth 1000000 in
theorem wregs_s28_0_E (m : List (List ByteArray)) (l : List (Int × Int)) (x0 : List ByteArray) (x1 : Int) (x2 : Int) (n0 : Nat) (K : AV → List HObj → Prop) :
    execN tab (mixE tab conG3 [] 400) (maskN wregs_live wregs_nils (GoodL Tryz.prog n0 3 K)) (finK tab (fnT Tryz.f3).res K) 400 (roundAt (fnT Tryz.f3) 28) (wregs_s28_0 m l x0 x1 x2) =
    (bif decide (x2 < x1) then GoodL Tryz.prog n0 3 K (headAt (fnT Tryz.f3) 32) (wregs_s32_0 m l x0 x2 (ByteArray.mk #[48]) x1 x2 (↑l.length : Int) 0) else K (AV.bool true) []) := by kernel_rfl
set_option maxRecDepth 1000000 in
theorem wregs_s32_0_E (m : List (List ByteArray)) (l : List (Int × Int)) (x0 : List ByteArray) (x1 : Int) (x2 : ByteArray) (x3 : Int) (x4 : Int) (x5 : Int) (x6 : Int) (n0 : Nat) (K : AV → List HObj → Prop) :
    execN tab (mixE tab conG3 [] 400) (maskN wregs_live wregs_nils (GoodL Tryz.prog n0 3 K)) (finK tab (fnT Tryz.f3).res K) 400 (roundAt (fnT Tryz.f3) 32) (wregs_s32_0 m l x0 x1 x2 x3 x4 x5 x6) =
    (bif decide (x6 < x5) then bif decide (0 ≤ x6) && decide (x6 < (↑l.length : Int)) then bif decide (0 ≤ [(l.getD x6.toNat (0, 0)).1, (l.getD x6.toNat (0, 0)).2].getD 0 0) && decide ([(l.getD x6.toNat (0, 0)).1, (l.getD x6.toNat (0, 0)).2].getD 0 0 < (↑m.length : Int)) then bif decide (0 ≤ [(l.getD x6.toNat (0, 0)).1, (l.getD x6.toNat (0, 0)).2].getD 1 0) && decide ([(l.getD x6.toNat (0, 0)).1, (l.getD x6.toNat (0, 0)).2].getD 1 0 < (↑(List.length (m.getD (Int.toNat ([(l.getD x6.toNat (0, 0)).1, (l.getD x6.toNat (0, 0)).2].getD 0 0)) [])) : Int)) then bif decide (0 ≤ [(l.getD x6.toNat (0, 0)).1, (l.getD x6.toNat (0, 0)).2].getD 0 0) && decide ([(l.getD x6.toNat (0, 0)).1, (l.getD x6.toNat (0, 0)).2].getD 0 0 < (↑m.length : Int)) then bif decide (0 ≤ x1) && decide (x1 < (↑(List.length (m.getD (Int.toNat ([(l.getD x6.toNat (0, 0)).1, (l.getD x6.toNat (0, 0)).2].getD 0 0)) [])) : Int)) then ∃ x y, List.getD (m.getD (Int.toNat ([(l.getD x6.toNat (0, 0)).1, (l.getD x6.toNat (0, 0)).2].getD 0 0)) []) (Int.toNat ([(l.getD x6.toNat (0, 0)).1, (l.getD x6.toNat (0, 0)).2].getD 1 0)) ByteArray.empty = Sem.ratText x ∧ List.getD (m.getD (Int.toNat ([(l.getD x6.toNat (0, 0)).1, (l.getD x6.toNat (0, 0)).2].getD 0 0)) []) x1.toNat ByteArray.empty = Sem.ratText y ∧ Sz 4000000000 x ∧ Sz 4000000000 y ∧ ∃ x_1 y_1, x2 = Sem.ratText x_1 ∧ Sem.ratText (x - y) = Sem.ratText y_1 ∧ Sz 4000000000 x_1 ∧ Sz 4000000000 y_1 ∧ GoodL Tryz.prog n0 3 K (headAt (fnT Tryz.f3) 32) (wregs_s32_0 m l x0 x1 (Sem.ratText (x_1 + y_1)) x3 x4 x5 (IntKind.i64.wrap (x6 + 1))) else False else False else False else False else False else bif decide (0 ≤ x1) && decide (x1 < (↑x0.length : Int)) then bif !ByteArray.toList (x0.getD x1.toNat ByteArray.empty) == x2.toList then K (AV.bool false) [] else GoodL Tryz.prog n0 3 K (headAt (fnT Tryz.f3) 28) (wregs_s28_0 m l x0 x3 (IntKind.i64.wrap (x4 + 1))) else False) := by kernel_rfl
end Go.Proofs.YtnjbabkfdcdkbaaGreatDoor.Mach
end
section
/- regretFact, by closed runs. -/
namespace Go.Proofs.YtnjbabkfdcdkbaaGreatDoor.Lib
open Go Go.Proofs.YtnjbabkfdcdkbaaGreatDoor.Mach
theorem regretFact_con {Q : Res} (h : trueG Q) : Con Tryz.prog 5 [] Q := Con.mono gfact0_ok fun v objs h' => by
  obtain ⟨h1, h2⟩ := h'
  rw [h1, h2]
  exact h
end Go.Proofs.YtnjbabkfdcdkbaaGreatDoor.Lib
end
section
/- Package regret: the laws' table; laws. -/
set_option linter.unusedVariables false
set_option linter.unusedSimpArgs false
namespace Go.Proofs.YtnjbabkfdcdkbaaGreatDoor.Lib
open Go Go.Proofs.YtnjbabkfdcdkbaaGreatDoor.Mach Go.Proofs.YtnjbabkfdcdkbaaGreatDoorW.PrintWords Go.Proofs.YtnjbabkfdcdkbaaGreatDoor.Sem Go.Proofs.YtnjbabkfdcdkbaaGreatDoor.Pure
def isTrueG : Res := fun v _ => v = .bool true
theorem yesG (H : List HObj) : resK isTrueG (.bool true) H := res_bool rfl
theorem yesB {b : Bool} (H : List HObj) (h : b = true) : resK isTrueG (.bool b) H := by subst h; exact yesG H
theorem sameG (s : ByteArray) : (s.toList == s.toList) = true := beq_self_eq_true _
theorem sz_txt {q : Rat} {n : Nat} (h : (ratText q).size ≤ n) : Sz (n + 1) q := by
  have := text_size q
  exact ⟨by omega, by omega⟩
theorem conG3_ok : ∀ g xs Q, conG3 g xs Q → Con Tryz.prog g xs Q := table_ok fun p hp => by
  simp only [List.mem_cons, List.not_mem_nil, or_false] at hp
  rcases hp with rfl | rfl | rfl | rfl | rfl | rfl | rfl | rfl | rfl | rfl | rfl | rfl | rfl | rfl | rfl | rfl
  · exact c0_ok fun _ h => regretFact_con h
  · exact c1_ok fun _ _ h => lweight_con h
  · exact c2_ok fun _ _ _ h => rcheck_con' h
  · exact c2_ok fun _ _ _ h => lhist_con h
  · exact c1_ok fun _ _ h => lgame_con h
  · exact c2_ok fun _ _ _ h => lvast_con h
  · exact c2_ok fun _ _ _ h => regs_con h
  · exact c1_ok fun _ _ h => mat_con h
  · exact c2_ok fun _ _ _ h => play_con h
  · exact c1_ok fun _ _ h => xvec_con h
  · exact c2_ok fun _ _ _ h => xadd_con h
  · exact c2_ok fun _ _ _ h => xsub_con h
  · exact c2_ok fun _ _ _ h => xdiv_con h
  · exact c1_ok fun _ _ h => xsign_con h
  · exact c1_ok fun _ _ h => xint_con h
  · exact c1_ok fun _ _ h => xwide_con h
section
variable {m : List (List ByteArray)} {l : List (Int × Int)}
theorem vastM_sz {n : Int} (h : vastV n [m] = false) (M : MatOk m) {i k : Nat} (hi : i < m.length) (hk : k < wide m) : Sz 13 (ent m i k) := by
  obtain ⟨_, h2⟩ := vast_not h m (by simp)
  have h3 := (h2 (m.getD i []) (getD_mem hi)).2
  obtain ⟨e1, _⟩ := M.ent i k hi hk
  have hr := (M.row i hi).1
  have h4 := h3 ((m.getD i []).getD k b0) (getD_mem (by omega))
  rw [e1] at h4
  exact sz_txt h4
theorem szg_sum {f : Nat → Rat} {n : Nat} (h : SzF 27 n f) (hn : n ≤ 30) {x : Nat} (hx : x ≤ n) : Sz 1000 (sumTo f x) := (sz_sum h x hx).mono (by omega)
theorem sum_sub (f g : Nat → Rat) : ∀ x, sumTo (fun t => f t - g t) x = sumTo f x - sumTo g x
  | 0 => by show (0 : Rat) = 0 - 0; rw [Rat.sub_self]
  | x + 1 => by
    show sumTo (fun t => f t - g t) x + (f x - g x) = sumTo f x + f x - (sumTo g x + g x)
    rw [sum_sub f g x]
    grind
theorem wregs_con (ht : TxM m) (hl : TxP l.length) : Con Tryz.prog 3 [.imm (eL eS) m, .imm eP l] isTrueG := by
  have hl' := hl
  unfold TxP at hl'
  refine conN (gn := fnT Tryz.f3) (by kernel_rfl) conG3_ok (inl := []) (LT := wregs_live) (NT := wregs_nils) rfl fun n0 => ?_
  rw [wregs_E]
  refine ⟨⟨ht.1, fun r hr => (ht.2 r hr).1⟩, fun nw => ?_⟩
  by_cases hw : nw > 6000
  · exact bif_pos hw (yesG _)
  refine bif_neg hw ⟨⟨ht, hl⟩, ⟨ht, hl⟩, ⟨ht, hl⟩, bif_not (bif_pos rfl ?_)⟩
  by_cases h1 : histErr m l = 0
  · refine bif_not (bif_pos h1 ⟨⟨by simp, fun x hx => by rw [List.mem_singleton.1 hx]; exact ht⟩, ?_⟩)
    by_cases hv : vastV 5 [m] = true
    · exact bif_t hv (yesG _)
    refine bif_f hv ?_
    by_cases h30 : (l.length : Int) > 30
    · exact bif_op h30 (yesG _)
    refine bif_on h30 ?_
    obtain ⟨hG, _, hin⟩ := hist_ok h1
    obtain ⟨M, m0, m12, w0, w12⟩ := game_ok hG
    have hv' : vastV 5 [m] = false := Bool.eq_false_iff.2 hv
    have sz : ∀ i k, i < m.length → k < wide m → Sz 13 (ent m i k) := fun i k hi hk => vastM_sz hv' M hi hk
    have hrow : ∀ i, i < m.length → (m.getD i []).length = wide m := fun i hi => (M.row i hi).1
    -- the terms
    have szA : ∀ i, i < m.length → ∀ t, t < l.length → Sz 27 (ent m i (l.getD t p0).2.toNat - ent m (l.getD t p0).1.toNat (l.getD t p0).2.toNat) := fun i hi t ht => by
      have := inG (hin t ht)
      exact (szS_sub (sz _ _ hi (by omega)) (sz _ _ (by omega) (by omega)))
    have szB : ∀ k, k < wide m → ∀ t, t < l.length → Sz 27 (ent m (l.getD t p0).1.toNat (l.getD t p0).2.toNat - ent m (l.getD t p0).1.toNat k) := fun k hk t ht => by
      have := inG (hin t ht)
      exact (szS_sub (sz _ _ (by omega) (by omega)) (sz _ _ (by omega) hk))
    have eA : ∀ i, regA m l i = sumTo (fun t => ent m i (l.getD t p0).2.toNat - ent m (l.getD t p0).1.toNat (l.getD t p0).2.toNat) l.length := fun i => (sum_sub _ _ _).symm
    have eB : ∀ k, regB m l k = sumTo (fun t => ent m (l.getD t p0).1.toNat (l.getD t p0).2.toNat - ent m (l.getD t p0).1.toNat k) l.length := fun k => (sum_sub _ _ _).symm
    have fA : SzF 2000 m.length (regA m l) := fun i hi => by rw [eA]; exact (szg_sum (szA i hi) (by omega) (Nat.le_refl _)).mono (by decide)
    have fB : SzF 2000 (wide m) (regB m l) := fun i hi => by rw [eB]; exact (szg_sum (szB i hi) (by omega) (Nat.le_refl _)).mono (by decide)
    have hE : regE m l = 0 := by unfold regE; rw [if_neg (fun h => h h1), vecE_fit fA, if_neg (fun h => h rfl), vecE_fit fB]
    have hA : regVA m l = textsOf m.length (regA m l) := if_pos hE
    have hB : regVB m l = textsOf (wide m) (regB m l) := if_pos hE
    have lA : (regVA m l).length = m.length := by rw [hA, texts_len]
    have lB : (regVB m l).length = wide m := by rw [hB, texts_len]
    have w0' : (m.getD 0 []).length = wide m := hrow 0 m0
    refine bif_not (bif_pos hE (bif_f (by rw [lA, cond_false, decide_eq_true rfl]; decide) (bif_pos (by omega) (bif_f (by rw [lB, w0', cond_false, decide_eq_true rfl]; decide) ?_))))
    -- the second player
    have loop28 := loopN (f := 3) (gn := fnT Tryz.f3) (n0 := n0) (r := 28) (by kernel_rfl) conG3_ok (inl := []) (LT := wregs_live) (NT := wregs_nils) (K := resK isTrueG) (fun k : Nat => wregs_s28_0 m l (regVB m l) ((wide m : Nat) : Int) (k : Int)) (fun k => wide m - k) (fun k => k ≤ wide m) (fun k hk0 ih => by
      rw [wregs_s28_0_E]
      by_cases hk : k < wide m
      · refine bif_pos (by omega) ?_
        have inner := loopN (f := 3) (gn := fnT Tryz.f3) (n0 := n0) (r := 32) (by kernel_rfl) conG3_ok (inl := []) (LT := wregs_live) (NT := wregs_nils) (K := resK isTrueG) (fun t : Nat => wregs_s32_0 m l (regVB m l) (k : Int) (ratText (sumTo (fun t => ent m (l.getD t p0).1.toNat (l.getD t p0).2.toNat - ent m (l.getD t p0).1.toNat k) t)) ((wide m : Nat) : Int) (k : Int) (l.length : Int) (t : Int)) (fun t => l.length - t) (fun t => t ≤ l.length) (fun t ht0 ih2 => by
          rw [wregs_s32_0_E]
          by_cases htl : t < l.length
          · have ha := inG (hin t htl)
            have ih3 := ih2 (t + 1) (by omega) (by omega)
            have hs : sumTo (fun t => ent m (l.getD t p0).1.toNat (l.getD t p0).2.toNat - ent m (l.getD t p0).1.toNat k) (t + 1) = sumTo (fun t => ent m (l.getD t p0).1.toNat (l.getD t p0).2.toNat - ent m (l.getD t p0).1.toNat k) t + (ent m (l.getD t p0).1.toNat (l.getD t p0).2.toNat - ent m (l.getD t p0).1.toNat k) := rfl
            rw [hs] at ih3
            have s1 := szB k hk t htl
            have s0 := szg_sum (szB k hk) (by omega) (show t ≤ l.length by omega)
            generalize sumTo (fun t => ent m (l.getD t p0).1.toNat (l.getD t p0).2.toNat - ent m (l.getD t p0).1.toNat k) t = S at *
            refine bif_pos (by omega) (bif_in htl ?_)
            rw [Int.toNat_natCast, wrS htl (by omega)]
            generalize hA : l.getD t p0 = a at ha ih3 s1
            obtain ⟨a1, a2⟩ := a
            simp only at ha ih3 s1
            have r1 := hrow a1.toNat (by omega)
            have ent1 := (M.ent a1.toNat a2.toNat (by omega) (by omega)).1
            have ent2 := (M.ent a1.toNat k (by omega) hk).1
            refine bif_inI (show 0 ≤ a1 by omega) (show a1 < _ by omega) (bif_inI (show 0 ≤ a2 by omega) (show a2 < ((m.getD a1.toNat []).length : Int) by omega) (bif_inI (show 0 ≤ a1 by omega) (show a1 < _ by omega) (bif_in (show k < (m.getD a1.toNat []).length by omega) ?_)))
            rw [Int.toNat_natCast]
            exact ⟨_, _, ent1, ent2, (sz _ _ (by omega) (by omega)).mono (by decide), (sz _ _ (by omega) hk).mono (by decide), _, _, rfl, rfl, s0.mono (by decide), s1.mono (by decide), ih3⟩
          · have htt : t = l.length := by omega
            subst htt
            refine bif_neg (by omega) (bif_in (by omega) ?_)
            rw [Int.toNat_natCast, hB, texts_getD hk, eB, wrS hk (by omega), ← hB]
            exact bif_not (bif_t (sameG _) (ih (k + 1) (by omega) (by omega))))
        have := inner 0 (Nat.zero_le _)
        rw [show (⟨#[48]⟩ : ByteArray) = ratText 0 from ratText_zero.symm]
        exact this
      · exact bif_neg (by omega) (yesG _))
    have loop16 := loopN (f := 3) (gn := fnT Tryz.f3) (n0 := n0) (r := 16) (by kernel_rfl) conG3_ok (inl := []) (LT := wregs_live) (NT := wregs_nils) (K := resK isTrueG) (fun k : Nat => wregs_s16_0 m l (regVA m l) (regVB m l) ((m.length : Nat) : Int) (k : Int)) (fun k => m.length - k) (fun k => k ≤ m.length) (fun k hk0 ih => by
      rw [wregs_s16_0_E]
      by_cases hk : k < m.length
      · refine bif_pos (by omega) ?_
        have inner := loopN (f := 3) (gn := fnT Tryz.f3) (n0 := n0) (r := 20) (by kernel_rfl) conG3_ok (inl := []) (LT := wregs_live) (NT := wregs_nils) (K := resK isTrueG) (fun t : Nat => wregs_s20_0 m l (regVA m l) (regVB m l) (k : Int) (ratText (sumTo (fun t => ent m k (l.getD t p0).2.toNat - ent m (l.getD t p0).1.toNat (l.getD t p0).2.toNat) t)) ((m.length : Nat) : Int) (k : Int) (l.length : Int) (t : Int)) (fun t => l.length - t) (fun t => t ≤ l.length) (fun t ht0 ih2 => by
          rw [wregs_s20_0_E]
          by_cases htl : t < l.length
          · have ha := inG (hin t htl)
            have ih3 := ih2 (t + 1) (by omega) (by omega)
            have hs : sumTo (fun t => ent m k (l.getD t p0).2.toNat - ent m (l.getD t p0).1.toNat (l.getD t p0).2.toNat) (t + 1) = sumTo (fun t => ent m k (l.getD t p0).2.toNat - ent m (l.getD t p0).1.toNat (l.getD t p0).2.toNat) t + (ent m k (l.getD t p0).2.toNat - ent m (l.getD t p0).1.toNat (l.getD t p0).2.toNat) := rfl
            rw [hs] at ih3
            have s1 := szA k hk t htl
            have s0 := szg_sum (szA k hk) (by omega) (show t ≤ l.length by omega)
            generalize sumTo (fun t => ent m k (l.getD t p0).2.toNat - ent m (l.getD t p0).1.toNat (l.getD t p0).2.toNat) t = S at *
            refine bif_pos (by omega) (bif_in htl (bif_in hk ?_))
            rw [Int.toNat_natCast, wrS htl (by omega)]
            generalize hA : l.getD t p0 = a at ha ih3 s1
            obtain ⟨a1, a2⟩ := a
            simp only at ha ih3 s1
            have r1 := hrow a1.toNat (by omega)
            have r2 := hrow k hk
            have ent1 := (M.ent a1.toNat a2.toNat (by omega) (by omega)).1
            have ent2 := (M.ent k a2.toNat hk (by omega)).1
            refine bif_inI (show 0 ≤ a2 by omega) (show a2 < ((m.getD ((k : Int).toNat) []).length : Int) by rw [Int.toNat_natCast]; omega) (bif_inI (show 0 ≤ a1 by omega) (show a1 < _ by omega) (bif_inI (show 0 ≤ a2 by omega) (show a2 < ((m.getD a1.toNat []).length : Int) by omega) ?_))
            rw [Int.toNat_natCast]
            exact ⟨_, _, ent2, ent1, (sz _ _ hk (by omega)).mono (by decide), (sz _ _ (by omega) (by omega)).mono (by decide), _, _, rfl, rfl, s0.mono (by decide), s1.mono (by decide), ih3⟩
          · have htt : t = l.length := by omega
            subst htt
            refine bif_neg (by omega) (bif_in (by omega) ?_)
            rw [Int.toNat_natCast, hA, texts_getD hk, eA, wrS hk (by omega), ← hA]
            exact bif_not (bif_t (sameG _) (ih (k + 1) (by omega) (by omega))))
        have := inner 0 (Nat.zero_le _)
        rw [show (⟨#[48]⟩ : ByteArray) = ratText 0 from ratText_zero.symm]
        exact this
      · refine bif_neg (by omega) ?_
        rw [lB]
        exact loop28 0 (Nat.zero_le _))
    rw [lA]
    exact loop16 0 (Nat.zero_le _)
  · have hE : regE m l = histErr m l := if_pos h1
    have hne : regE m l ≠ 0 := by rw [hE]; exact h1
    have hA : regVA m l = [] := if_neg hne
    have hB : regVB m l = [] := if_neg hne
    refine bif_not (bif_neg h1 (bif_pos hE (yesB _ ?_)))
    rw [hA, hB]
    rfl
end
section
variable {v : List ByteArray}
end
end Go.Proofs.YtnjbabkfdcdkbaaGreatDoor.Lib
end
