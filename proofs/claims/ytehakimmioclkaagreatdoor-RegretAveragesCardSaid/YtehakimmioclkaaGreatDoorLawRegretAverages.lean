/- RegretAverages: the row. -/
import Derived.Test.YtehakimmioclkaaGreatDoorRows
import Derived.Test.YtehakimmioclkaaGreatDoorCards
import Derived.Test.YtehakimmioclkaaGreatDoorTie
import Derived.Deep.DeepHandedRow
import Derived.Lib.LaidTab
import Derived.Test.YtehakimmioclkaaGreatDoorRA7
import Derived.WalkKit
import Derived.ProofKit
import Derived.OpenShut
import Derived.ShutString
import Derived.ChangeOld
import Derived.Below
import Derived.SizedLaws
set_option linter.unusedVariables false
namespace Go.Proofs.YtehakimmioclkaaGreatDoor.regretAverages
open Go Go.ChangeShapes Go.WideShapes Go.ChangeAt Go.RowKit Go.Proofs.YtehakimmioclkaaGreatDoor.Mach Go.Proofs.YtehakimmioclkaaGreatDoor.Lib
theorem own : ownKnob Tryz.prog.godebug = none := by kernel_rfl
theorem laidOut : laidOutB Tryz.prog = true := by kernel_rfl
def es : List ETy := [.one (.slice (.one (.slice (.one .str)))), .one (.slice (.more (.int .i64) (.one (.int .i64))))]
theorem con (xs : List Arg) (h : xs.map (·.1) = es) (hs : ∀ x ∈ xs, SzE x.1 x.2) : Con Tryz.prog 4 (xs.map kT) fun v _ => v = .bool true := by
  obtain ⟨m, r0, e0, k0⟩ := aQ3 h
  obtain ⟨l, r1, e1, k1⟩ := aQ3 k0
  have e2 := a49 k1
  subst e2 e1 e0
  clear h k0 k1
  have hm := hs ⟨_, m⟩ (by simp)
  have hl := hs ⟨_, l⟩ (by simp)
  simp only [SzE, SzC] at hm hl
  obtain ⟨m1, _, m2⟩ := hm
  have l1 := hl.1
  have bm : pJ (ETy.one (CTy.slice (ETy.one CTy.str))) = 24 := rfl
  have bs : pJ (ETy.one CTy.str) = 16 := rfl
  have bl : 0 < pJ eP := by decide
  rw [bm] at m1
  have m1' : List.length (α := List ByteArray) m * 24 ≤ 140737488351232 := m1
  refine a46 (m := m) (l := l) ⟨by omega, fun r hr => ?_⟩ (Nat.le_trans (Nat.le_mul_of_pos_right _ bl) (Nat.le_trans l1 (by decide)))
  obtain ⟨r1, _, r2⟩ := m2 r hr
  rw [bs] at r1
  have r1' : List.length (α := ByteArray) r * 16 ≤ 140737488351232 := r1
  exact ⟨by omega, fun s hs => Nat.le_trans (r2 s hs) (by decide)⟩
/-- A world for the witness: the settled one, the listed variables holding what their initialisers lay. -/
noncomputable def laidWorld (os : Os) : World := { World.holding Tryz.prog os ⟨#[], #[], []⟩ with heap := (((World.holding Tryz.prog os ⟨#[], #[], []⟩).heap.modify 2 fun
    | .cells _ t frozen => .cells (#[.int .u8 128, .int .u8 191, .int .u8 160, .int .u8 191, .int .u8 128, .int .u8 159, .int .u8 144, .int .u8 191, .int .u8 128, .int .u8 143, .int .u8 0, .int .u8 0, .int .u8 0, .int .u8 0, .int .u8 0, .int .u8 0, .int .u8 0, .int .u8 0, .int .u8 0, .int .u8 0, .int .u8 0, .int .u8 0, .int .u8 0, .int .u8 0, .int .u8 0, .int .u8 0, .int .u8 0, .int .u8 0, .int .u8 0, .int .u8 0, .int .u8 0, .int .u8 0]) t frozen
    | o => o).modify 1 fun
    | .cells _ t frozen => .cells ((Go.Pinned.utf8FirstZ.map fun (n : Nat) => Value.int .u8 n).toArray) t frozen
    | o => o) }
set_option maxRecDepth 100000 in
theorem laid_met (os : Os) : laidMet Tryz.prog Rows.regretAveragesRow.laid ((laidWorld os).forCall (fun _ _ => 0) ⟨#[], #[.slice none 0 0, .slice none 0 0], []⟩).memory :=
  laidMet_of_run' 8 (by kernel_rfl) (by kernel_rfl)
theorem reads (os : Os) {H : Type} (enc : TypeId × Value → H) : ∃ places, DataW.whole enc Tryz.prog ((laidWorld os).forCall (fun _ _ => 0) ⟨#[], #[.slice none 0 0, .slice none 0 0], []⟩).memory Tryz.f4.params.toList Rows.regretAveragesSpec.vars false (#[.slice none 0 0, .slice none 0 0] : Array Value).toList 8 = some ([.nil, .nil], [], places) :=
  ⟨[], by kernel_rfl⟩
set_option maxRecDepth 100000 in
theorem lifted (os : Os) (started : os.Started) (H : Type) (enc : TypeId × Value → H) (F : Stop.Interp) :
    ReturnsInHanded {} Tryz.checked os 4 .any ((OpenSpec.ofChange Rows.regretAveragesSpec).preRow enc Tryz.prog Tryz.f4 Rows.regretAveragesRow.domain false Rows.regretAveragesRow.laid) (((OpenSpec.ofChange Rows.regretAveragesSpec).at F).post enc Tryz.prog Tryz.f4 false true false false) := by
  obtain ⟨places, hx⟩ := reads os enc
  refine returnsInHanded_of_row (C := Tryz.checked) (s := OpenSpec.ofChange Rows.regretAveragesSpec) own started (by kernel_rfl) Tryz.func4
    (witness_row_at (enc := enc) (C := Tryz.checked) false (laidWorld os) #[.slice none 0 0, .slice none 0 0] rfl (by kernel_rfl) (by kernel_rfl) (by kernel_rfl)
      (OpenSpec.preRow_of_cond 8 hx (by kernel_rfl) (fun k hk => by cases hk) (by kernel_rfl) (laid_met os))) ?_
  intro W base args ds gs before hval0 hW hcnd _ hsz0 _ _ _
  exact a5B (s := Rows.regretAveragesSpec) (es := es) (tb := 4) rfl laidOut (by kernel_rfl) (by kernel_rfl) rfl Tryz.underlying4
    (fun ds h => by match ds, h with | [_, _], _ => rfl) con hval0 hW hsz0
theorem over : Rows.RegretAveragesSaid :=
  OpenClaim.holds_of_cond 4 Tryz.f4 rfl rfl rfl rfl rfl rfl rfl ⟨rfl, rfl, rfl, rfl, rfl⟩ rfl rfl rfl rfl rfl (by kernel_rfl) Tryz.func4 (by kernel_rfl)
    (of_decide_eq_true (by kernel_rfl)) (by unfold Func.isWrapper; first | (rw [if_pos (by decide +kernel)]; kernel_rfl) | (rw [if_neg (by decide +kernel)]; exact ⟨rfl, rfl⟩))
    (fun os started H enc _ F => by rw [OpenClaim.pre_eq_preRow]; exact lifted os started H enc F)
theorem plain (f : FuncId) (fn : Func) (hf : Tryz.pinned.checked.prog.funcNamed "gamehall/gamehalllaw2.RegretAverages" = some f) (hfn : Tryz.pinned.checked.prog.funcs[f]? = some fn) :
    false = Tryz.pinned.checked.prog.looks [] ∧ ∀ (j : Nat) t, fn.params[j]? = some t → Tryz.pinned.checked.prog.wantsStandIn t = false := by
  obtain rfl : f = 4 := Option.some.inj ((show Tryz.prog.funcNamed "gamehall/gamehalllaw2.RegretAverages" = some 4 by kernel_rfl).symm.trans hf) |>.symm
  obtain rfl : fn = Tryz.f4 := (Option.some.inj (Tryz.func4.symm.trans hfn)).symm
  refine ⟨by kernel_rfl, fun j t ht => ?_⟩
  have hall : Tryz.f4.params.toList.all (fun t => !Tryz.prog.wantsStandIn t) = true := by kernel_rfl
  have hm : t ∈ Tryz.f4.params.toList := Array.mem_toList_iff.mpr (Array.mem_of_getElem? ht)
  have := List.all_eq_true.mp hall t hm
  exact (by simpa using this : Tryz.prog.wantsStandIn t = false)
theorem card : Rows.RegretAveragesCardSaid :=
  Claim7.holds_tied_plain_at .later [] _ _ _ _ over (fun _ h => by cases h) (by kernel_rfl) (fun _ h => by cases h) regretAverages_row_tie rfl ⟨rfl, rfl⟩ (by kernel_rfl) rfl plain (by kernel_rfl)
theorem proved : Rows.RegretAveragesCardSaid := card
#print axioms proved
end Go.Proofs.YtehakimmioclkaaGreatDoor.regretAverages
namespace Go.Proofs.YtehakimmioclkaaGreatDoor
/-- The row, under a short name, for the claim. -/
theorem regretAverages_holds : Rows.RegretAveragesCardSaid := regretAverages.proved
end Go.Proofs.YtehakimmioclkaaGreatDoor
