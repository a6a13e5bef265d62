/- ReplyValues: the row. -/
import Derived.Test.YtpngedkdkpfnkaaGreatDoorRows
import Derived.Test.YtpngedkdkpfnkaaGreatDoorCards
import Derived.Test.YtpngedkdkpfnkaaGreatDoorTie
import Derived.Deep.DeepHandedRow
import Derived.Lib.LaidTab
import Derived.Test.YtpngedkdkpfnkaaGreatDoorRV9
import Derived.WalkKit
import Derived.ProofKit
import Derived.OpenShut
import Derived.ShutString
import Derived.ChangeOld
import Derived.Below
import Derived.SizedLaws
set_option linter.unusedVariables false
namespace Go.Proofs.YtpngedkdkpfnkaaGreatDoor.replyValues
open Go Go.ChangeShapes Go.WideShapes Go.ChangeAt Go.RowKit Go.Proofs.YtpngedkdkpfnkaaGreatDoor.Mach Go.Proofs.YtpngedkdkpfnkaaGreatDoor.Lib
theorem own : ownKnob Tryz.prog.godebug = none := by kernel_rfl
theorem laidOut : laidOutB Tryz.prog = true := by kernel_rfl
def es : List ETy := [.one (.slice (.more (.int .i64) (.more (.int .i64) (.more (.int .i64) (.more (.slice (.one (.int .i64))) (.more (.slice (.one .str)) (.one .str))))))), .one (.slice (.more (.int .i64) (.one (.slice (.one .str))))), .one (.slice (.more (.int .i64) (.one (.slice (.one .str)))))]
theorem con (xs : List Arg) (h : xs.map (·.1) = es) (hs : ∀ x ∈ xs, SzE x.1 x.2) : Con Tryz.prog 3 (xs.map mZ) fun v _ => v = .bool true := by
  obtain ⟨t, r0, e0, k0⟩ := aN7 h
  obtain ⟨a, r1, e1, k1⟩ := aN7 k0
  obtain ⟨b, r2, e2, k2⟩ := aN7 k1
  have e3 := bLB k2
  subst e3 e2 e1 e0
  clear h k0 k1 k2
  have ht := hs ⟨_, t⟩ (by simp)
  have ha := hs ⟨_, a⟩ (by simp)
  have hb := hs ⟨_, b⟩ (by simp)
  exact bK8 (t := t) (a := a) (b := b) (bLF ht) (a29 ha) (a29 hb)
/-- A world for the witness: the settled one, the listed variables holding what their initialisers lay. -/
noncomputable def laidWorld (os : Os) : World := { World.holding Tryz.prog os ⟨#[], #[], []⟩ with heap := (((World.holding Tryz.prog os ⟨#[], #[], []⟩).heap.modify 2 fun
    | .cells _ t frozen => .cells (#[.int .u8 128, .int .u8 191, .int .u8 160, .int .u8 191, .int .u8 128, .int .u8 159, .int .u8 144, .int .u8 191, .int .u8 128, .int .u8 143, .int .u8 0, .int .u8 0, .int .u8 0, .int .u8 0, .int .u8 0, .int .u8 0, .int .u8 0, .int .u8 0, .int .u8 0, .int .u8 0, .int .u8 0, .int .u8 0, .int .u8 0, .int .u8 0, .int .u8 0, .int .u8 0, .int .u8 0, .int .u8 0, .int .u8 0, .int .u8 0, .int .u8 0, .int .u8 0]) t frozen
    | o => o).modify 1 fun
    | .cells _ t frozen => .cells ((Go.Pinned.utf8FirstZ.map fun (n : Nat) => Value.int .u8 n).toArray) t frozen
    | o => o) }
set_option maxRecDepth 100000 in
theorem laid_met (os : Os) : laidMet Tryz.prog Rows.replyValuesRow.laid ((laidWorld os).forCall (fun _ _ => 0) ⟨#[], #[.slice none 0 0, .slice none 0 0, .slice none 0 0], []⟩).memory :=
  laidMet_of_run' 8 (by kernel_rfl) (by kernel_rfl)
theorem reads (os : Os) {H : Type} (enc : TypeId × Value → H) : ∃ places, DataW.whole enc Tryz.prog ((laidWorld os).forCall (fun _ _ => 0) ⟨#[], #[.slice none 0 0, .slice none 0 0, .slice none 0 0], []⟩).memory Tryz.f3.params.toList Rows.replyValuesSpec.vars false (#[.slice none 0 0, .slice none 0 0, .slice none 0 0] : Array Value).toList 8 = some ([.nil, .nil, .nil], [], places) :=
  ⟨[], by kernel_rfl⟩
set_option maxRecDepth 100000 in
theorem lifted (os : Os) (started : os.Started) (H : Type) (enc : TypeId × Value → H) (F : Stop.Interp) :
    ReturnsInHanded {} Tryz.checked os 3 .any ((OpenSpec.ofChange Rows.replyValuesSpec).preRow enc Tryz.prog Tryz.f3 Rows.replyValuesRow.domain false Rows.replyValuesRow.laid) (((OpenSpec.ofChange Rows.replyValuesSpec).at F).post enc Tryz.prog Tryz.f3 false true false false) := by
  obtain ⟨places, hx⟩ := reads os enc
  refine returnsInHanded_of_row (C := Tryz.checked) (s := OpenSpec.ofChange Rows.replyValuesSpec) own started (by kernel_rfl) Tryz.func3
    (witness_row_at (enc := enc) (C := Tryz.checked) false (laidWorld os) #[.slice none 0 0, .slice none 0 0, .slice none 0 0] rfl (by kernel_rfl) (by kernel_rfl) (by kernel_rfl)
      (OpenSpec.preRow_of_cond 8 hx (by kernel_rfl) (fun k hk => by cases hk) (by kernel_rfl) (laid_met os))) ?_
  intro W base args ds gs before hval0 hW hcnd _ hsz0 _ _ _
  exact bLD (s := Rows.replyValuesSpec) (es := es) (tb := 4) rfl laidOut (by kernel_rfl) (by kernel_rfl) rfl Tryz.underlying4
    (fun ds h => by match ds, h with | [_, _, _], _ => rfl) con hval0 hW hsz0
theorem over : Rows.ReplyValuesSaid :=
  OpenClaim.holds_of_cond 3 Tryz.f3 rfl rfl rfl rfl rfl rfl rfl ⟨rfl, rfl, rfl, rfl, rfl⟩ rfl rfl rfl rfl rfl (by kernel_rfl) Tryz.func3 (by kernel_rfl)
    (of_decide_eq_true (by kernel_rfl)) (by unfold Func.isWrapper; first | (rw [if_pos (by decide +kernel)]; kernel_rfl) | (rw [if_neg (by decide +kernel)]; exact ⟨rfl, rfl⟩))
    (fun os started H enc _ F => by rw [OpenClaim.pre_eq_preRow]; exact lifted os started H enc F)
theorem plain (f : FuncId) (fn : Func) (hf : Tryz.pinned.checked.prog.funcNamed "gamehall/gamehalllaw2.ReplyValues" = some f) (hfn : Tryz.pinned.checked.prog.funcs[f]? = some fn) :
    false = Tryz.pinned.checked.prog.looks [] ∧ ∀ (j : Nat) t, fn.params[j]? = some t → Tryz.pinned.checked.prog.wantsStandIn t = false := by
  obtain rfl : f = 3 := Option.some.inj ((show Tryz.prog.funcNamed "gamehall/gamehalllaw2.ReplyValues" = some 3 by kernel_rfl).symm.trans hf) |>.symm
  obtain rfl : fn = Tryz.f3 := (Option.some.inj (Tryz.func3.symm.trans hfn)).symm
  refine ⟨by kernel_rfl, fun j t ht => ?_⟩
  have hall : Tryz.f3.params.toList.all (fun t => !Tryz.prog.wantsStandIn t) = true := by kernel_rfl
  have hm : t ∈ Tryz.f3.params.toList := Array.mem_toList_iff.mpr (Array.mem_of_getElem? ht)
  have := List.all_eq_true.mp hall t hm
  exact (by simpa using this : Tryz.prog.wantsStandIn t = false)
theorem card : Rows.ReplyValuesCardSaid :=
  Claim7.holds_tied_plain_at .later [] _ _ _ _ over (fun _ h => by cases h) (by kernel_rfl) (fun _ h => by cases h) replyValues_row_tie rfl ⟨rfl, rfl⟩ (by kernel_rfl) rfl plain (by kernel_rfl)
theorem proved : Rows.ReplyValuesCardSaid := card
#print axioms proved
end Go.Proofs.YtpngedkdkpfnkaaGreatDoor.replyValues
namespace Go.Proofs.YtpngedkdkpfnkaaGreatDoor
/-- The row, under a short name, for the claim. -/
theorem replyValues_holds : Rows.ReplyValuesCardSaid := replyValues.proved
end Go.Proofs.YtpngedkdkpfnkaaGreatDoor
