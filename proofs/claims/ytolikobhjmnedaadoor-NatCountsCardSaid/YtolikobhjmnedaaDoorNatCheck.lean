/- Lemmas on package nat's Check and on the reference's: both tell the same of every text. -/
import Derived.Test.YtolikobhjmnedaaDoorGNx
import Derived.Test.YtolikobhjmnedaaDoorAid
set_option linter.unusedSimpArgs false
set_option linter.unusedVariables false
namespace Go.Proofs.YtolikobhjmnedaaDoor.Pure
open Go.RowKit Go.Proofs.YtolikobhjmnedaaDoor.GN Go.Proofs.YtolikobhjmnedaaDoorW.PrintWords Go.Proofs.YtolikobhjmnedaaDoorW.PrintLast Go.Proofs.YtolikobhjmnedaaDoor.Aid

/-- what a text's bytes say: 5: no canonical number; 2: too many digits; 0: a number -/
def tailErr (s : ByteArray) : Int := if (s.size : Int) > 2000 then 2 else 0
def digErr : List Int → Int → Int
  | [], e => e
  | c :: r, e => if c < 48 then 5 else if c > 57 then 5 else digErr r e
def natErr (s : ByteArray) : Int := if s.size = 0 then 5 else digErr (bytesOf s) (if 1 < s.size ∧ bt s 0 = 48 then 5 else tailErr s)
theorem digErr_five : ∀ l, digErr l 5 = 5
  | [] => rfl
  | c :: r => by simp [digErr, digErr_five r]
theorem gp_bytes_ok (s : ByteArray) (h : s.size ≤ 9223372036854775807) : gp_bytes.f s = some (bytesOf s) := by unfold gp_bytes.f; rw [if_pos h]
theorem list_nil (s : ByteArray) : s.toList = ([] : List UInt8) ↔ s.size = 0 := by
  have h1 : s.toList.length = s.size := by rw [ByteArray.toList_eq, data_length]
  constructor
  · intro h
    rw [h] at h1
    simpa using h1.symm
  · intro h
    exact List.eq_nil_of_length_eq_zero (by omega)
theorem check_l0 (s : ByteArray) (hs : s.size ≤ 1000000000000000) (d : Nat) : ∀ j, j + d = s.size → Ev (fun k => nat_Check.l0 k s (bytesOf s) (s.size : Int) (j : Int)) (digErr ((bytesOf s).drop j) (tailErr s)) := by
  have hl := bytesOf_length s
  induction d with
  | zero =>
    intro j hj
    refine Ev.step (fun k => nat_Check.l0.eq_2 _ _ _ _ k) ?_
    refine Ev.no (by omega) ?_
    rw [show j = (bytesOf s).length by omega, List.drop_length]
    exact Ev.ite (fun h => Ev.now' (by simp [digErr, tailErr, h])) (fun h => Ev.now' (by simp [digErr, tailErr, h]))
  | succ d ih =>
    intro j hj
    have hlt : j < (bytesOf s).length := by omega
    refine Ev.step (fun k => nat_Check.l0.eq_2 _ _ _ _ k) ?_
    refine Ev.yes (by omega) (Ev.yes (by omega) (Ev.yes (by omega) ?_))
    rw [drop_rd _ j hlt]
    refine Ev.ite (fun h => Ev.now' (by simp [digErr, h])) (fun h1 => Ev.ite (fun h => Ev.now' (by simp only [digErr]; rw [if_neg h1, if_pos h])) (fun h2 => ?_))
    rw [w64s (by omega), show ∀ e, digErr (rd (bytesOf s) ↑j :: List.drop (j + 1) (bytesOf s)) e = digErr (List.drop (j + 1) (bytesOf s)) e from fun e => by simp only [digErr]; rw [if_neg h1, if_neg h2]]
    exact ih (j + 1) (by omega)
theorem check_ev (s : ByteArray) (hs : s.size ≤ 1000000000000000) : Ev (fun k => nat_Check.f k s) (natErr s) := by
  have hl := bytesOf_length s
  unfold nat_Check.f natErr
  have j0t : Ev (fun k => nat_Check.j0 k s true) 5 := by
    refine Ev.step (fun k => nat_Check.j0.eq_2 _ _ k) ?_
    exact Ev.yes rfl (Ev.now _)
  have j0f : Ev (fun k => nat_Check.j0 k s false) (digErr (bytesOf s) (tailErr s)) := by
    refine Ev.step (fun k => nat_Check.j0.eq_2 _ _ k) ?_
    refine Ev.no (by simp) (Ev.opt_bind (gp_bytes_ok s (by omega)) ?_)
    rw [hl]
    exact check_l0 s hs s.size 0 (by omega)
  refine Ev.ite (fun h => ?_) (fun h => ?_)
  · rw [if_pos ((list_nil s).1 h)]
    exact j0t
  · have h0 : ¬ s.size = 0 := fun z => h ((list_nil s).2 z)
    rw [if_neg h0]
    refine Ev.yes (by omega) (Ev.ite (fun h1 => ?_) (fun h1 => ?_))
    · by_cases h2 : (s.size : Int) > 1
      · rw [show decide ((s.size : Int) > 1) = true by simpa using h2, if_pos ⟨by omega, h1⟩, digErr_five]
        exact j0t
      · rw [show decide ((s.size : Int) > 1) = false by simpa using h2, if_neg (by omega)]
        exact j0f
    · rw [if_neg (fun z => h1 z.2)]
      exact j0f
theorem rerr_l0 (s : ByteArray) (hs : s.size ≤ 1000000000000000) (d : Nat) : ∀ j, j + d = s.size → Ev (fun k => gamehallref2_NatError.l0 k s (j : Int)) (digErr ((bytesOf s).drop j) (if 1 < s.size ∧ bt s 0 = 48 then 5 else tailErr s)) := by
  have hl := bytesOf_length s
  induction d with
  | zero =>
    intro j hj
    refine Ev.step (fun k => gamehallref2_NatError.l0.eq_2 _ _ k) ?_
    refine Ev.no (by omega) ?_
    rw [show j = (bytesOf s).length by omega, List.drop_length]
    have j1f : Ev (fun k => gamehallref2_NatError.j1 k s false) (tailErr s) := by
      refine Ev.step (fun k => gamehallref2_NatError.j1.eq_2 _ _ k) ?_
      exact Ev.no (by simp) (Ev.ite (fun h => Ev.now' (by simp [tailErr, h])) (fun h => Ev.now' (by simp [tailErr, h])))
    refine Ev.ite (fun h => Ev.yes (by omega) ?_) (fun h => ?_)
    · simp only [digErr]
      by_cases h2 : bt s 0 = 48
      · rw [if_pos ⟨by omega, h2⟩, h2]
        refine Ev.step (fun k => gamehallref2_NatError.j1.eq_2 _ _ k) ?_
        exact Ev.yes (by simp) (Ev.now _)
      · rw [if_neg (fun z => h2 z.2), show (bt s 0 == 48) = false by simpa using h2]
        exact j1f
    · simp only [digErr]
      rw [if_neg (by omega)]
      exact j1f
  | succ d ih =>
    intro j hj
    have hlt : j < (bytesOf s).length := by omega
    refine Ev.step (fun k => gamehallref2_NatError.l0.eq_2 _ _ k) ?_
    refine Ev.yes (by omega) (Ev.yes (by omega) ?_)
    rw [drop_rd _ j hlt, ← rd_bytesOf]
    refine Ev.ite (fun h => Ev.now' (by simp [digErr, h])) (fun h1 => Ev.ite (fun h => Ev.now' (by simp only [digErr]; rw [if_neg h1, if_pos h])) (fun h2 => ?_))
    rw [w64s (by omega), show ∀ e, digErr (rd (bytesOf s) ↑j :: List.drop (j + 1) (bytesOf s)) e = digErr (List.drop (j + 1) (bytesOf s)) e from fun e => by simp only [digErr]; rw [if_neg h1, if_neg h2]]
    exact ih (j + 1) (by omega)
theorem rerr_ev (s : ByteArray) (hs : s.size ≤ 1000000000000000) : Ev (fun k => gamehallref2_NatError.f k s) (natErr s) := by
  unfold gamehallref2_NatError.f natErr
  refine Ev.ite (fun h => ?_) (fun h => ?_)
  · rw [if_pos (by omega)]; exact Ev.now _
  · rw [if_neg (by omega)]; exact rerr_l0 s hs s.size 0 (by omega)
theorem fact_ev : Ev (fun k => gamehalllaw2_natFact.f k) true := Ev.of gamehalllaw2_natFact.mono (k := 60) (by decide +kernel)
end Go.Proofs.YtolikobhjmnedaaDoor.Pure
