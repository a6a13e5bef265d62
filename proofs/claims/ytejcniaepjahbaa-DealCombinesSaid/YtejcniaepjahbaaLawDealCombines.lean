/- DealCombines: the row. -/
import Derived.Test.YtejcniaepjahbaaRows
import Derived.Test.YtejcniaepjahbaaM50
import Derived.Test.YtejcniaepjahbaaDC4
import Derived.WalkKit
import Derived.ProofKit
set_option linter.unusedVariables false
namespace Go.Proofs.Ytejcniaepjahbaa.dealCombines
open Go Go.Proofs.Ytejcniaepjahbaa.Mach Go.Proofs.Ytejcniaepjahbaa.Deal
theorem own : ownKnob Try.prog.godebug = none := by kernel_rfl
theorem laidOut : laidOutB Try.prog = true := by kernel_rfl
def es : List ETy := [.one (.int .i64), .one (.slice (.one (.slice eI))), .one (.int .i64)]
theorem con (xs : List Arg) (h : xs.map (·.1) = es) (hs : ∀ x ∈ xs, SzE x.1 x.2) : Con Try.prog 5 (xs.map argAV) fun v _ => v = .bool true := by
  obtain ⟨n, r0, e0, k0⟩ := arg_cons h
  obtain ⟨l, r1, e1, k1⟩ := arg_cons k0
  obtain ⟨s, r2, e2, k2⟩ := arg_cons k1
  have e3 := arg_nil k2
  subst e3 e2 e1 e0
  clear h k0 k1 k2
  have hl := hs ⟨_, l⟩ (by simp)
  simp only [SzE, SzC] at hl
  obtain ⟨h1, _, h2⟩ := hl
  have b1 : bytesE (ETy.one (CTy.slice eI)) = 24 := rfl
  have b2 : bytesE eI = 8 := rfl
  refine law_con (n := n) (l := l) (s := s) ?_ ?_ rfl
  · rw [b1] at h1
    exact Nat.le_trans (Nat.mul_le_mul (Nat.le_refl _) (by decide : 8 ≤ 24)) h1
  · intro d hd
    have := (h2 d hd).1
    rw [b2] at this
    exact this
set_option maxRecDepth 100000 in
theorem lifted (os : Os) (started : os.Started) (H : Type) (enc : TypeId × Value → H) :
    ReturnsInHanded {} Try.checked os 5 .any (Rows.dealCombinesSpec.pre6 enc Try.prog Try.f5 Rows.dealCombinesRow.domain false) (Rows.dealCombinesSpec.post enc Try.prog Try.f5 false true false false) := by
  refine returnsInHanded_of_change_sized (C := Try.checked) own started (by kernel_rfl) Try.func5
    (ChangeSpec.witness6 (enc := enc) (C := Try.checked) false ⟨#[], #[.int .i64 0, .slice none 0 0, .int .i64 0], []⟩ 8 (by kernel_rfl) (by kernel_rfl) (by kernel_rfl) (by kernel_rfl)) ?_
  intro W base args ds gs before hval hW _ hsz _
  exact row_calls (s := Rows.dealCombinesSpec) (es := es) (tb := 4) rfl laidOut (by kernel_rfl) (by kernel_rfl) rfl Try.underlying4
    (fun ds h => by match ds, h with | [_, _, _], _ => rfl) con hval hW hsz
theorem over : Rows.dealCombinesRow.holds Try.pinned (OpenSpec.ofChange Rows.dealCombinesSpec) :=
  OpenClaim.holds_of_wide 5 Try.f5 rfl rfl rfl rfl rfl rfl rfl ⟨rfl, rfl, rfl, rfl, rfl⟩ rfl rfl rfl rfl rfl (by kernel_rfl) Try.func5 (by kernel_rfl)
    (of_decide_eq_true (by kernel_rfl)) (by unfold Func.isWrapper; first | (rw [if_pos (by decide +kernel)]; kernel_rfl) | (rw [if_neg (by decide +kernel)]; exact ⟨rfl, rfl⟩))
    (fun os started H enc _ => lifted os started H enc)
theorem proved : Rows.DealCombinesSaid := over
#print axioms proved
end Go.Proofs.Ytejcniaepjahbaa.dealCombines
namespace Go.Proofs.Ytejcniaepjahbaa
/-- The row, under a short name, for the claim. -/
theorem dealCombines_holds : Rows.DealCombinesSaid := dealCombines.proved
end Go.Proofs.Ytejcniaepjahbaa
