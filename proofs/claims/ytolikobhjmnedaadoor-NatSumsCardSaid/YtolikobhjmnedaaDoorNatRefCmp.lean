/- The reference's NatCmp over canonical texts. -/
import Derived.Test.YtolikobhjmnedaaDoorNatRefSub
set_option linter.unusedSimpArgs false
set_option linter.unusedVariables false
namespace Go.Proofs.YtolikobhjmnedaaDoor.Pure
open Go.RowKit Go.Proofs.YtolikobhjmnedaaDoor.GNS Go.Proofs.YtolikobhjmnedaaDoorW.PrintWords Go.Proofs.YtolikobhjmnedaaDoorW.PrintLast Go.Proofs.YtolikobhjmnedaaDoor.Aid Go.Proofs.YtolikobhjmnedaaDoor.NatVal

def nums (l : List UInt8) : List Int := l.map fun b => (b.toNat : Int)
theorem bytesOf_nums (s : ByteArray) : bytesOf s = nums s.toList := by rw [ByteArray.toList_eq]; rfl
theorem less_val : ∀ x y : List UInt8, x.length = y.length → asc (nums x) → asc (nums y) → Op.bytesLess x y = decide (val 10 (digs (nums x)) < val 10 (digs (nums y)))
  | [], [], _, _, _ => by simp [Op.bytesLess]
  | [], _ :: _, h, _, _ => by simp at h
  | _ :: _, [], h, _, _ => by simp at h
  | c :: x, e :: y, h, hx, hy => by
    have hx' : asc (nums x) := fun z hz => hx z (List.mem_cons_of_mem _ hz)
    have hy' : asc (nums y) := fun z hz => hy z (List.mem_cons_of_mem _ hz)
    have hl : x.length = y.length := by simpa using h
    have ih := less_val x y hl hx' hy'
    have a1 := val_lt (b := 10) (by decide) (digs_ok hx')
    have a2 := val_lt (b := 10) (by decide) (digs_ok hy')
    have b1 := val_nonneg (b := 10) (by decide) (digs_ok hx')
    have b2 := val_nonneg (b := 10) (by decide) (digs_ok hy')
    have lx : (digs (nums x)).length = y.length := by rw [digs_length, nums, List.length_map, hl]
    have ly : (digs (nums y)).length = y.length := by rw [digs_length, nums, List.length_map]
    rw [lx] at a1
    rw [ly] at a2
    have ex : val 10 (digs (nums (c :: x))) = val 10 (digs (nums x)) + 10 ^ y.length * ((c.toNat : Int) - 48) := by
      show val 10 (digs ((c.toNat : Int) :: nums x)) = _
      rw [digs_cons, val_snoc, lx]
    have ey : val 10 (digs (nums (e :: y))) = val 10 (digs (nums y)) + 10 ^ y.length * ((e.toNat : Int) - 48) := by
      show val 10 (digs ((e.toNat : Int) :: nums y)) = _
      rw [digs_cons, val_snoc, ly]
    rw [ex, ey, Op.bytesLess, ih]
    have hp : (0 : Int) < 10 ^ y.length := Int.pow_pos (by decide)
    by_cases h1 : c.toNat < e.toNat
    · have hm : (10 : Int) ^ y.length * (((c.toNat : Int) - 48) + 1) ≤ 10 ^ y.length * ((e.toNat : Int) - 48) := Int.mul_le_mul_of_nonneg_left (by omega) (by omega)
      rw [Int.mul_add, Int.mul_one] at hm
      have hlt : c < e := UInt8.lt_iff_toNat_lt.2 h1
      simp [hlt]; omega
    · by_cases h2 : c.toNat = e.toNat
      · have : c = e := UInt8.toNat_inj.1 h2
        subst this
        simp
      · have hm : (10 : Int) ^ y.length * (((e.toNat : Int) - 48) + 1) ≤ 10 ^ y.length * ((c.toNat : Int) - 48) := Int.mul_le_mul_of_nonneg_left (by omega) (by omega)
        rw [Int.mul_add, Int.mul_one] at hm
        have hlt : ¬ c < e := fun z => h1 (UInt8.lt_iff_toNat_lt.1 z)
        have hne : ¬ c = e := fun z => h2 (by rw [z])
        have hr : ¬ (val 10 (digs (nums x)) + 10 ^ y.length * ((c.toNat : Int) - 48) < val 10 (digs (nums y)) + 10 ^ y.length * ((e.toNat : Int) - 48)) := by omega
        have hbe : (c == e) = false := by simpa using hne
        rw [hbe]
        simp only [Bool.false_and, Bool.or_false]
        exact (decide_eq_decide.2 ⟨fun z => absurd z hlt, fun z => absurd z hr⟩)
theorem rcmp_eq {a b : ByteArray} {u v : Int} (ha : Canon a u) (hb : Canon b v) : gamehallref2_NatCmp.f a b = some (cmpI u v) := by
  unfold gamehallref2_NatCmp.f
  by_cases h1 : (a.size : Int) < (b.size : Int)
  · rw [if_pos h1, cmpI, if_pos (canon_len ha hb (by omega))]
  · rw [if_neg h1]
    by_cases h2 : (a.size : Int) > (b.size : Int)
    · have := canon_len hb ha (by omega)
      rw [if_pos h2, cmpI, if_neg (by omega), if_pos (by omega)]
    · rw [if_neg h2]
      have hlen : a.toList.length = b.toList.length := by rw [ByteArray.toList_eq, ByteArray.toList_eq, data_length, data_length]; omega
      have ea : val 10 (digs (nums a.toList)) = u := by rw [← bytesOf_nums]; exact ha.2.1
      have eb : val 10 (digs (nums b.toList)) = v := by rw [← bytesOf_nums]; exact hb.2.1
      have hl := less_val a.toList b.toList hlen (by rw [← bytesOf_nums]; exact ha.1) (by rw [← bytesOf_nums]; exact hb.1)
      rw [ea, eb] at hl
      rw [hl]
      by_cases h3 : u < v
      · rw [if_pos (by simpa using h3), cmpI, if_pos h3]
      · rw [if_neg (by simpa using h3), cmpI, if_neg h3]
        by_cases h4 : u = v
        · subst h4
          have := canon_inj ha hb
          rw [if_pos (by simp [this]), if_neg (by omega)]
        · have hne : ¬ a.toList = b.toList := fun z => h4 (by rw [← ea, ← eb, z])
          rw [if_neg (by simp [h3, hne]), if_pos (by omega)]
end Go.Proofs.YtolikobhjmnedaaDoor.Pure
