/- DealSays: the row. -/
import Derived.Test.YtejcniaepjahbaaRows
import Derived.Test.YtejcniaepjahbaaDX7
import Derived.WalkKit
import Derived.ProofKit
set_option linter.unusedVariables false
namespace Go.Proofs.Ytejcniaepjahbaa.dealSays
open Go Go.Proofs.Ytejcniaepjahbaa.Mach Go.Proofs.Ytejcniaepjahbaa.Lib
theorem own : ownKnob Try.prog.godebug = none := by kernel_rfl
theorem laidOut : laidOutB Try.prog = true := by kernel_rfl
def es : List ETy := [.one (.int .i64), .one (.int .i64), .one (.slice eCall)]
theorem con (xs : List Arg) (h : xs.map (·.1) = es) (hs : ∀ x ∈ xs, SzE x.1 x.2) : Con Try.prog 6 (xs.map argAV) fun v _ => v = .bool true := by
  obtain ⟨p, r0, e0, k0⟩ := arg_cons h
  obtain ⟨n, r1, e1, k1⟩ := arg_cons k0
  obtain ⟨l, r2, e2, k2⟩ := arg_cons k1
  have e3 := arg_nil k2
  subst e3 e2 e1 e0
  clear h k0 k1 k2
  have hl := hs ⟨_, l⟩ (by simp)
  simp only [SzE, SzC] at hl
  obtain ⟨h1, _, h2⟩ := hl
  have b1 : 0 < bytesE eCall := by decide
  have b2 : bytesE eI = 8 := rfl
  refine dsays_con (p := p) (n := n) (l := l) (Nat.le_trans (Nat.le_mul_of_pos_right _ b1) (Nat.le_trans h1 (by decide))) ?_ rfl
  intro d hd
  have := (h2 d hd).2.2.2.2.1
  rw [b2] at this
  exact this
set_option maxRecDepth 100000 in
theorem lifted (os : Os) (started : os.Started) (H : Type) (enc : TypeId × Value → H) :
    ReturnsInHanded {} Try.checked os 6 .any (Rows.dealSaysSpec.pre6 enc Try.prog Try.f6 Rows.dealSaysRow.domain false) (Rows.dealSaysSpec.post enc Try.prog Try.f6 false true false false) := by
  refine returnsInHanded_of_change_sized (C := Try.checked) own started (by kernel_rfl) Try.func6
    (ChangeSpec.witness6 (enc := enc) (C := Try.checked) false ⟨#[], #[.int .i64 0, .int .i64 0, .slice none 0 0], []⟩ 8 (by kernel_rfl) (by kernel_rfl) (by kernel_rfl) (by kernel_rfl)) ?_
  intro W base args ds gs before hval hW _ hsz _
  exact row_calls (s := Rows.dealSaysSpec) (es := es) (tb := 4) rfl laidOut (by kernel_rfl) (by kernel_rfl) rfl Try.underlying4
    (fun ds h => by match ds, h with | [_, _, _], _ => rfl) con hval hW hsz
theorem over : Rows.dealSaysRow.holds Try.pinned (OpenSpec.ofChange Rows.dealSaysSpec) :=
  OpenClaim.holds_of_wide 6 Try.f6 rfl rfl rfl rfl rfl rfl rfl ⟨rfl, rfl, rfl, rfl, rfl⟩ rfl rfl rfl rfl rfl (by kernel_rfl) Try.func6 (by kernel_rfl)
    (of_decide_eq_true (by kernel_rfl)) (by unfold Func.isWrapper; first | (rw [if_pos (by decide +kernel)]; kernel_rfl) | (rw [if_neg (by decide +kernel)]; exact ⟨rfl, rfl⟩))
    (fun os started H enc _ => lifted os started H enc)
theorem proved : Rows.DealSaysSaid := over
#print axioms proved
end Go.Proofs.Ytejcniaepjahbaa.dealSays
namespace Go.Proofs.Ytejcniaepjahbaa
/-- The row, under a short name, for the claim. -/
theorem dealSays_holds : Rows.DealSaysSaid := dealSays.proved
end Go.Proofs.Ytejcniaepjahbaa
