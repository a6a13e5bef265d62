/- The fact of the package deal, by a run (in each order in which its four arrays may be made). -/
import Derived.Test.YtejcniaepjahbaaDC0
namespace Go.Proofs.Ytejcniaepjahbaa.Deal
open Go Go.Proofs.Ytejcniaepjahbaa.Mach
def dfA : Prop := (AV.bool true, ([] : List HObj)) = (AV.bool true, [])
set_option maxRecDepth 1000000 in
theorem df_run : comes tab [] 1500 24 [] [] (.bool true) [] = (((dfA ∧ dfA) ∧ ((dfA ∧ dfA) ∧ (dfA ∧ dfA))) ∧ (((dfA ∧ dfA) ∧ ((dfA ∧ dfA) ∧ (dfA ∧ dfA))) ∧ (((dfA ∧ dfA) ∧ ((dfA ∧ dfA) ∧ (dfA ∧ dfA))) ∧ ((dfA ∧ dfA) ∧ ((dfA ∧ dfA) ∧ (dfA ∧ dfA)))))) := by kernel_rfl
theorem df_mo : Try.prog.follows .mixedOrders = true := by kernel_rfl
theorem dfA_true : dfA := rfl
theorem df_known : KnownOk Try.prog ⟨24, [], .bool true, []⟩ := by
  refine known_of (T := tab) (L := []) (k := 1500) (ids := []) tabOk df_mo (fun x hx => by cases hx) (v0 := .bool true) ?_ (by kernel_rfl) rfl rfl rfl rfl
  rw [df_run]
  have a := dfA_true
  exact ⟨⟨⟨a, a⟩, ⟨a, a⟩, a, a⟩, ⟨⟨a, a⟩, ⟨a, a⟩, a, a⟩, ⟨⟨a, a⟩, ⟨a, a⟩, a, a⟩, ⟨a, a⟩, ⟨a, a⟩, a, a⟩
theorem df_con {Q : AV → List HObj → Prop} (hQ : Q (.bool true) []) : Con Try.prog 24 [] Q := Con.mono df_known fun v objs h => by
  obtain ⟨h1, h2⟩ := h
  rw [h1, h2]
  exact hQ
end Go.Proofs.Ytejcniaepjahbaa.Deal
