/- The reference's NatDiv and NatGcd: digit by digit, by subtraction; by remainders. -/
import Derived.Test.YtolikobhjmnedaaDoorNatRefMul
import Derived.Test.YtolikobhjmnedaaDoorNatGcd
set_option linter.unusedSimpArgs false
set_option linter.unusedVariables false
namespace Go.Proofs.YtolikobhjmnedaaDoor.Pure
open Go.RowKit Go.Proofs.YtolikobhjmnedaaDoor.GN Go.Proofs.YtolikobhjmnedaaDoorW.PrintWords Go.Proofs.YtolikobhjmnedaaDoorW.PrintLast Go.Proofs.YtolikobhjmnedaaDoor.Aid Go.Proofs.YtolikobhjmnedaaDoor.NatVal

theorem encode_digit (x : Int) (h0 : 48 ≤ x) (h1 : x ≤ 57) : bytesOf (Utf8.encode x) = [x] := by
  have : x = 48 ∨ x = 49 ∨ x = 50 ∨ x = 51 ∨ x = 52 ∨ x = 53 ∨ x = 54 ∨ x = 55 ∨ x = 56 ∨ x = 57 := by omega
  rcases this with rfl | rfl | rfl | rfl | rfl | rfl | rfl | rfl | rfl | rfl <;> rfl
theorem canon_val_nonneg {s : ByteArray} {v : Int} (h : Canon s v) : 0 ≤ v := by
  have := val_nonneg (b := 10) (by decide) (digs_ok h.1)
  rw [h.2.1] at this; exact this
theorem canon_zero {s : ByteArray} {v : Int} (h : Canon s v) : s.toList = ([48] : List UInt8) ↔ v = 0 := by
  constructor
  · intro he
    have hb : bytesOf s = [48] := by rw [bytesOf_nums, he]; rfl
    rw [← h.2.1, hb]; rfl
  · intro hv
    subst hv
    have h0 : Canon (⟨#[48]⟩ : ByteArray) 0 := ⟨asc_cons (l := []) (by decide) (fun c hc => by simp at hc), rfl, by decide, fun z => by revert z; decide⟩
    rw [canon_inj h h0, ByteArray.toList_eq]
/-- the digits of a prefix, as a number -/
def pre (a : ByteArray) (i : Nat) : Int := val 10 (digs ((bytesOf a).take i))
theorem pre_step (a : ByteArray) (i : Nat) (h : i < a.size) : pre a (i + 1) = 10 * pre a i + (rd (bytesOf a) (i : Int) - 48) := by
  unfold pre
  rw [take_rd _ _ (by rw [bytesOf_length]; exact h), digs_snoc]
  simp only [val]; omega
theorem take_all (a : ByteArray) : (bytesOf a).take a.size = bytesOf a := List.take_of_length_le (by rw [bytesOf_length]; exact Nat.le_refl _)
theorem asc_take {l : List Int} (h : asc l) (i : Nat) : asc (l.take i) := fun c hc => h c (List.mem_of_mem_take hc)
theorem bytes_one (a : ByteArray) (i : Nat) (h : i < a.size) : bytesOf (a.extract i (i + 1)) = [rd (bytesOf a) (i : Int)] := by
  rw [bytesOf_extract, drop_rd _ i (by rw [bytesOf_length]; exact h), show i + 1 - i = 1 by omega]; rfl
theorem canon_ten {r b : ByteArray} {w v : Int} (hr : Canon r w) (hb : Canon b v) (h : w < 10 * v) : r.size ≤ b.size + 1 := by
  by_cases hle : r.size ≤ b.size + 1
  · exact hle
  · have hne : digs (bytesOf r) ≠ [] := fun z => by
      have := congrArg List.length z
      rw [digs_length, bytesOf_length, List.length_nil] at this
      omega
    have h1 := val_ge (b := 10) (by decide) (digs_ok hr.1) (digs_noLead (hr.2.2.2 (by omega))) hne
    rw [digs_length, bytesOf_length, hr.2.1] at h1
    have h2 : (10 : Int) ^ (b.size + 1) ≤ 10 ^ (r.size - 1) := pow_mono (by decide) (by omega)
    have h3 := val_lt (b := 10) (by decide) (digs_ok hb.1)
    rw [digs_length, bytesOf_length, hb.2.1] at h3
    rw [Int.pow_succ] at h2
    omega
theorem rdiv_l1 (a b : ByteArray) (i : Nat) (v : Int) (hb : Canon b v) (hv : 0 < v) (hbs : b.size ≤ 90000) (q0 : ByteArray) (R : ByteArray × ByteArray → Prop) (u : Int) (hu10 : u < 10 * v)
    (hq : q0.size ≤ 1000000)
    (next : ∀ (r' : ByteArray) (x : Int), 48 ≤ x → x ≤ 57 → x = 48 + u / v → Canon r' (u % v) → ∃ z, Ev (fun k => gamehallref2_NatDiv.l0 k a b (q0 ++ Utf8.encode x) r' (wrap64 ((i : Int) + 1))) z ∧ R z) (d : Nat) :
    ∀ (r : ByteArray) (w x : Int), Canon r w → w ≤ (d : Int) * v + (v - 1) → 0 ≤ w → 48 ≤ x → u = (x - 48) * v + w →
      ∃ z, Ev (fun k => gamehallref2_NatDiv.l1 k a b q0 r (i : Int) x) z ∧ R z := by
  have hx57 : ∀ (x w : Int), 0 ≤ w → u = (x - 48) * v + w → x ≤ 57 := by
    intro x w hw0 he
    by_cases h : x ≤ 57
    · exact h
    · have := Int.mul_le_mul_of_nonneg_right (show (10 : Int) ≤ x - 48 by omega) (show 0 ≤ v by omega)
      omega
  induction d with
  | zero =>
    intro r w x hr hw hw0 hx he
    have hwv : w < v := by omega
    obtain ⟨e1, e2⟩ := divmod_of hv he.symm hw0 hwv
    obtain ⟨z, z1, z2⟩ := next r x hx (hx57 x w hw0 he) (by omega) (by rw [e2]; exact hr)
    refine ⟨z, ?_, z2⟩
    refine Ev.step (fun k => gamehallref2_NatDiv.l1.eq_2 _ _ _ _ _ _ k) ?_
    have hsz : q0.size + (Utf8.encode x).size ≤ 9223372036854775807 := by
      have := congrArg List.length (encode_digit x hx (hx57 x w hw0 he))
      rw [bytesOf_length, List.length_singleton] at this
      omega
    exact Ev.opt_bind (rcmp_eq hr hb) (Ev.no (by unfold cmpI; rw [if_pos hwv]; decide) (Ev.yes hsz z1))
  | succ d ih =>
    intro r w x hr hw hw0 hx he
    by_cases hwv : w < v
    · obtain ⟨e1, e2⟩ := divmod_of hv he.symm hw0 hwv
      obtain ⟨z, z1, z2⟩ := next r x hx (hx57 x w hw0 he) (by omega) (by rw [e2]; exact hr)
      refine ⟨z, ?_, z2⟩
      refine Ev.step (fun k => gamehallref2_NatDiv.l1.eq_2 _ _ _ _ _ _ k) ?_
      have hsz : q0.size + (Utf8.encode x).size ≤ 9223372036854775807 := by
        have := congrArg List.length (encode_digit x hx (hx57 x w hw0 he))
        rw [bytesOf_length, List.length_singleton] at this
        omega
      exact Ev.opt_bind (rcmp_eq hr hb) (Ev.no (by unfold cmpI; rw [if_pos hwv]; decide) (Ev.yes hsz z1))
    · have hxv : 0 ≤ (x - 48) * v := Int.mul_nonneg (by omega) (by omega)
      have hrs := canon_ten hr hb (by omega)
      obtain ⟨s, s1, s2, s3⟩ := rsub_ev hr hb (by omega) (by omega)
      have he' : u = (x + 1 - 48) * v + (w - v) := by
        rw [he, show x + 1 - 48 = (x - 48) + 1 by omega, Int.add_mul, Int.one_mul]; omega
      have h57 := hx57 (x + 1) (w - v) (by omega) he'
      obtain ⟨z, z1, z2⟩ := ih s (w - v) (x + 1) s2 (by
        have : ((d + 1 : Nat) : Int) * v = (d : Int) * v + v := by rw [Int.natCast_succ, Int.add_mul, Int.one_mul]
        omega) (by omega) (by omega) he'
      refine ⟨z, ?_, z2⟩
      refine Ev.step (fun k => gamehallref2_NatDiv.l1.eq_2 _ _ _ _ _ _ k) ?_
      rw [show (x + 1) % 256 = x + 1 by omega]
      refine Ev.opt_bind (rcmp_eq hr hb) (Ev.yes (by unfold cmpI; rw [if_neg hwv]; split <;> omega) (Ev.bind1 s1 z1))
theorem strip_zero (s : ByteArray) (hs : asc (bytesOf s)) (hn : s.size ≤ 1000000) : ∃ t, Ev (fun k => gamehallref2_strip.f k ((⟨#[48]⟩ : ByteArray) ++ s)) t ∧ Canon t (val 10 (digs (bytesOf s))) ∧ t.size ≤ s.size + 1 := by
  have hb : bytesOf ((⟨#[48]⟩ : ByteArray) ++ s) = 48 :: bytesOf s := by rw [bytesOf_append]; rfl
  have hz : ((⟨#[48]⟩ : ByteArray) ++ s).size = s.size + 1 := by
    rw [← bytesOf_length, hb, List.length_cons, bytesOf_length]
  obtain ⟨t, t1, t2, t3⟩ := stripf_ev ((⟨#[48]⟩ : ByteArray) ++ s) (by omega) (by omega) (by rw [hb]; exact asc_cons (by decide) hs)
  refine ⟨t, t1, ?_, by omega⟩
  rw [hb, digs_cons] at t2
  rw [val_append] at t2
  simpa [val] using t2
theorem rdiv_l0 (a b : ByteArray) (ha : asc (bytesOf a)) (has : a.size ≤ 90000) (v : Int) (hb : Canon b v) (hv : 0 < v) (hbs : b.size ≤ 90000) (d : Nat) :
    ∀ (i : Nat) (q r : ByteArray), i + d = a.size → asc (bytesOf q) → q.size ≤ i → Canon r (pre a i % v) → val 10 (digs (bytesOf q)) = pre a i / v → 
      ∃ z : ByteArray × ByteArray, Ev (fun k => gamehallref2_NatDiv.l0 k a b q r (i : Int)) z ∧ Canon z.1 (val 10 (digs (bytesOf a)) / v) ∧ Canon z.2 (val 10 (digs (bytesOf a)) % v) := by
  induction d with
  | zero =>
    intro i q r hi hq hqs hr hqv
    obtain ⟨t, t1, t2, t3⟩ := strip_zero q hq (by omega)
    have he : pre a i = val 10 (digs (bytesOf a)) := by unfold pre; rw [show i = a.size by omega, take_all]
    rw [he] at hr hqv
    refine ⟨(t, r), ?_, by rw [← hqv]; exact t2, hr⟩
    refine Ev.step (fun k => gamehallref2_NatDiv.l0.eq_2 _ _ _ _ _ k) ?_
    exact Ev.no (by omega) (Ev.yes (by omega) (Ev.bind1 t1 (Ev.now _)))
  | succ d ih =>
    intro i q r hi hq hqs hr hqv
    have hlt : i < a.size := by omega
    have hc : 48 ≤ rd (bytesOf a) (i : Int) ∧ rd (bytesOf a) (i : Int) ≤ 57 := ha _ (mem_rd _ i (by rw [bytesOf_length]; exact hlt))
    have hm0 := Int.emod_nonneg (pre a i) (show v ≠ 0 by omega)
    have hm1 := Int.emod_lt_of_pos (pre a i) hv
    have hrs : r.size ≤ b.size := by
      by_cases h : r.size ≤ b.size
      · exact h
      · have := canon_len hb hr (by omega)
        omega
    -- the remainder with one digit more
    have hcat : bytesOf (r ++ a.extract i (i + 1)) = bytesOf r ++ [rd (bytesOf a) (i : Int)] := by rw [bytesOf_append, bytes_one a i hlt]
    have hcs : (r ++ a.extract i (i + 1)).size = r.size + 1 := by rw [← bytesOf_length, hcat]; simp [bytesOf_length]
    have hes : (a.extract i (i + 1)).size = 1 := by rw [← bytesOf_length, bytes_one a i hlt]; rfl
    obtain ⟨s, s1, s2, s3⟩ := stripf_ev (r ++ a.extract i (i + 1)) (by omega) (by omega) (by
      rw [hcat]; exact asc_append hr.1 (asc_cons hc (fun c hc => by simp at hc)))
    rw [hcat, digs_snoc] at s2
    simp only [val] at s2
    rw [hr.2.1] at s2
    obtain ⟨u, hu⟩ : ∃ u, u = rd (bytesOf a) (i : Int) - 48 + 10 * (pre a i % v) := ⟨_, rfl⟩
    rw [← hu] at s2
    have hu10 : u < 10 * v := by omega
    have hu0 : 0 ≤ u := by omega
    -- the digit
    have hde := Int.mul_ediv_add_emod (pre a i) v
    have hps := pre_step a i hlt
    have hue := Int.mul_ediv_add_emod u v
    have hum0 := Int.emod_nonneg u (show v ≠ 0 by omega)
    have hum1 := Int.emod_lt_of_pos u hv
    obtain ⟨f1, f2⟩ := divmod_of (a := pre a (i + 1)) (d := v) (q := 10 * (pre a i / v) + u / v) (r := u % v) hv (NatAlg.div1 _ _ _ _ _ _ _ _ hde hue hps hu) hum0 hum1
    obtain ⟨z, z1, z2⟩ := rdiv_l1 a b i v hb hv hbs q (fun z => Canon z.1 (val 10 (digs (bytesOf a)) / v) ∧ Canon z.2 (val 10 (digs (bytesOf a)) % v)) u hu10 (by omega) (fun r' x hx0 hx1 hx hr' => by
      rw [w64s (by omega)]
      have hen := encode_digit x hx0 hx1
      have hbq : bytesOf (q ++ Utf8.encode x) = bytesOf q ++ [x] := by rw [bytesOf_append, hen]
      have hqz : (q ++ Utf8.encode x).size = q.size + 1 := by rw [← bytesOf_length, hbq]; simp [bytesOf_length]
      exact ih (i + 1) (q ++ Utf8.encode x) r' (by omega) (by rw [hbq]; exact asc_append hq (asc_cons ⟨hx0, hx1⟩ (fun c hc => by simp at hc))) (by omega) (by rw [f2]; exact hr') (by
        rw [hbq, digs_snoc, f1]
        simp only [val]
        rw [hqv, hx]; omega)) 9 s u 48 s2 (by omega) hu0 (by omega) (by omega)
    refine ⟨z, ?_, z2⟩
    refine Ev.step (fun k => gamehallref2_NatDiv.l0.eq_2 _ _ _ _ _ k) ?_
    rw [w64s (by omega), Int.toNat_natCast, Int.toNat_natCast]
    exact Ev.yes (by omega) (Ev.yes (by omega) (Ev.yes (by omega) (Ev.yes (by omega) (Ev.yes (by omega) (Ev.bind1 s1 z1)))))
theorem mxn (n m : Nat) (h : 1 ≤ m) (hm : m ≤ 1000000) : mx 0 (mn (n : Int) (wrap64 ((m : Int) - 1))) = ((min n (m - 1) : Nat) : Int) := by
  rw [wpred m h hm]
  unfold mx mn
  omega
theorem rdiv_ev {a b : ByteArray} {u v : Int} (ha : Canon a u) (hb : Canon b v) (hv : 0 < v) (has : a.size ≤ 90000) (hbs : b.size ≤ 90000) :
    ∃ z : ByteArray × ByteArray, Ev (fun k => gamehallref2_NatDiv.f k a b) z ∧ Canon z.1 (u / v) ∧ Canon z.2 (u % v) := by
  obtain ⟨n, hn⟩ : ∃ n, n = min a.size (b.size - 1) := ⟨_, rfl⟩
  have hpr : bytesOf (a.extract 0 n) = (bytesOf a).take n := by rw [bytesOf_extract]; simp
  have hpz : (a.extract 0 n).size = n := by rw [← bytesOf_length, hpr, List.length_take, bytesOf_length]; omega
  obtain ⟨r, r1, r2, r3⟩ := strip_zero (a.extract 0 n) (by rw [hpr]; exact asc_take ha.1 n) (by omega)
  rw [hpr] at r2
  have hlt : pre a n < v := by
    have h1 := val_lt (b := 10) (by decide) (digs_ok (asc_take ha.1 n))
    rw [digs_length, List.length_take, bytesOf_length, Nat.min_eq_left (by omega)] at h1
    have h2 : (10 : Int) ^ n ≤ 10 ^ (b.size - 1) := pow_mono (by decide) (by omega)
    by_cases h : 1 < b.size
    · have hne : digs (bytesOf b) ≠ [] := fun z => by
        have := congrArg List.length z
        rw [digs_length, bytesOf_length, List.length_nil] at this
        omega
      have h3 := val_ge (b := 10) (by decide) (digs_ok hb.1) (digs_noLead (hb.2.2.2 h)) hne
      rw [digs_length, bytesOf_length, hb.2.1] at h3
      unfold pre
      omega
    · have : n = 0 := by omega
      subst this
      unfold pre
      simpa [digs, val] using hv
  have hpre0 : 0 ≤ pre a n := val_nonneg (by decide) (digs_ok (asc_take ha.1 n))
  obtain ⟨z, z1, z2, z3⟩ := rdiv_l0 a b ha.1 has v hb hv hbs (a.size - n) n ⟨#[]⟩ r (by omega) (fun c hc => by simp [bytesOf] at hc) (by show 0 ≤ n; omega) (by rw [Int.emod_eq_of_lt hpre0 hlt]; exact r2) (by rw [Int.ediv_eq_zero_of_lt hpre0 hlt]; rfl)
  rw [ha.2.1] at z2 z3
  refine ⟨z, ?_, z2, z3⟩
  have h0 := hb.2.2.1
  unfold gamehallref2_NatDiv.f
  rw [mxn a.size b.size h0 (by omega), ← hn, Int.toNat_natCast]
  exact Ev.yes (by omega) (Ev.yes (by omega) (Ev.yes (by omega) (Ev.bind1 r1 z1)))
theorem rgcd_l0 (n : Nat) : ∀ (a b : ByteArray) (m : Nat), Canon a (m : Int) → Canon b (n : Int) → a.size ≤ 90000 → b.size ≤ 90000 →
    ∃ t, Ev (fun k => gamehallref2_NatGcd.l0 k a b) t ∧ Canon t ((Nat.gcd m n : Nat) : Int) := by
  induction n using Nat.strongRecOn with
  | _ n ih =>
    intro a b m ha hb has hbs
    have hz := canon_zero hb
    by_cases h0 : n = 0
    · subst h0
      refine ⟨a, ?_, by rw [Nat.gcd_zero_right]; exact ha⟩
      refine Ev.step (fun k => gamehallref2_NatGcd.l0.eq_2 _ _ k) ?_
      exact Ev.yes (hz.2 rfl) (Ev.now _)
    · obtain ⟨z, z1, z2, z3⟩ := rdiv_ev ha hb (by omega) has hbs
      rw [← Int.natCast_emod] at z3
      have hlt := Nat.mod_lt m (show 0 < n by omega)
      have hrl : z.2.size ≤ b.size := by
        by_cases h : z.2.size ≤ b.size
        · exact h
        · have := canon_len hb z3 (by omega)
          omega
      obtain ⟨g, g1, g2⟩ := ih (m % n) hlt b z.2 n hb z3 hbs (by omega)
      refine ⟨g, ?_, by rw [Nat.gcd_comm, Nat.gcd_rec, Nat.gcd_comm]; exact g2⟩
      refine Ev.step (fun k => gamehallref2_NatGcd.l0.eq_2 _ _ k) ?_
      exact Ev.no (fun h => by have := hz.1 h; omega) (Ev.bind1 z1 g1)
theorem rgcd_ev {a b : ByteArray} {m n : Nat} (ha : Canon a (m : Int)) (hb : Canon b (n : Int)) (has : a.size ≤ 90000) (hbs : b.size ≤ 90000) :
    ∃ t, Ev (fun k => gamehallref2_NatGcd.f k a b) t ∧ Canon t ((Nat.gcd m n : Nat) : Int) := by
  unfold gamehallref2_NatGcd.f
  exact rgcd_l0 n a b m ha hb has hbs
theorem canon_size {t : ByteArray} {w : Int} (h : Canon t w) (n : Nat) (hn : 1 ≤ n) (hw : w < 10 ^ n) : t.size ≤ n := by
  by_cases hle : t.size ≤ n
  · exact hle
  · have hne : digs (bytesOf t) ≠ [] := fun z => by
      have := congrArg List.length z
      rw [digs_length, bytesOf_length, List.length_nil] at this
      omega
    have h1 := val_ge (b := 10) (by decide) (digs_ok h.1) (digs_noLead (h.2.2.2 (by omega))) hne
    rw [digs_length, bytesOf_length, h.2.1] at h1
    have h2 : (10 : Int) ^ n ≤ 10 ^ (t.size - 1) := pow_mono (by decide) (by omega)
    omega
theorem canon_lt {t : ByteArray} {w : Int} (h : Canon t w) (n : Nat) (hn : t.size ≤ n) : w < 10 ^ n := by
  have h1 := val_lt (b := 10) (by decide) (digs_ok h.1)
  rw [digs_length, bytesOf_length, h.2.1] at h1
  have h2 : (10 : Int) ^ t.size ≤ 10 ^ n := pow_mono (by decide) hn
  omega
end Go.Proofs.YtolikobhjmnedaaDoor.Pure
