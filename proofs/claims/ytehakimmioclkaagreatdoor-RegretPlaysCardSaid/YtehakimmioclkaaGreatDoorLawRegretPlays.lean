/- RegretPlays: the row. -/
import Derived.Test.YtehakimmioclkaaGreatDoorRows
import Derived.Test.YtehakimmioclkaaGreatDoorCards
import Derived.Test.YtehakimmioclkaaGreatDoorTie
import Derived.Deep.DeepHandedRow
import Derived.Lib.LaidTab
import Derived.Test.YtehakimmioclkaaGreatDoorRP6
import Derived.WalkKit
import Derived.ProofKit
import Derived.OpenShut
import Derived.ShutString
import Derived.ChangeOld
import Derived.Below
import Derived.SizedLaws
set_option linter.unusedVariables false
namespace Go.Proofs.YtehakimmioclkaaGreatDoor.regretPlays
open Go Go.ChangeShapes Go.WideShapes Go.ChangeAt Go.RowKit Go.Proofs.YtehakimmioclkaaGreatDoor.Mach Go.Proofs.YtehakimmioclkaaGreatDoor.Lib
theorem own : ownKnob Tryz.prog.godebug = none := by kernel_rfl
theorem laidOut : laidOutB Tryz.prog = true := by kernel_rfl
def es : List ETy := [.one (.slice (.one (.slice (.one .str)))), .one (.int .i64)]
theorem con (xs : List Arg) (h : xs.map (·.1) = es) (hs : ∀ x ∈ xs, SzE x.1 x.2) : Con Tryz.prog 3 (xs.map j2) fun v _ => v = .bool true := by
  obtain ⟨m, r0, e0, k0⟩ := aOE h
  obtain ⟨n, r1, e1, k1⟩ := aOE k0
  have e2 := a12 k1
  subst e2 e1 e0
  clear h k0 k1
  have hm := hs ⟨_, m⟩ (by simp)
  simp only [SzE, SzC] at hm
  obtain ⟨m1, _, m2⟩ := hm
  have bm : rY (ETy.one (CTy.slice (ETy.one CTy.str))) = 24 := rfl
  have bs : rY (ETy.one CTy.str) = 16 := rfl
  rw [bm] at m1
  have m1' : List.length (α := List ByteArray) m * 24 ≤ 140737488351232 := m1
  refine a1Z (m := m) (n := n) ⟨by omega, fun r hr => ?_⟩
  obtain ⟨r1, _, r2⟩ := m2 r hr
  rw [bs] at r1
  have r1' : List.length (α := ByteArray) r * 16 ≤ 140737488351232 := r1
  exact ⟨by omega, fun s hs => Nat.le_trans (r2 s hs) (by decide)⟩
/-- A world for the witness: the settled one, the listed variables holding what their initialisers lay. -/
noncomputable def laidWorld (os : Os) : World := { World.holding Tryz.prog os ⟨#[], #[], []⟩ with heap := (((World.holding Tryz.prog os ⟨#[], #[], []⟩).heap.modify 2 fun
    | .cells _ t frozen => .cells (#[.int .u8 128, .int .u8 191, .int .u8 160, .int .u8 191, .int .u8 128, .int .u8 159, .int .u8 144, .int .u8 191, .int .u8 128, .int .u8 143, .int .u8 0, .int .u8 0, .int .u8 0, .int .u8 0, .int .u8 0, .int .u8 0, .int .u8 0, .int .u8 0, .int .u8 0, .int .u8 0, .int .u8 0, .int .u8 0, .int .u8 0, .int .u8 0, .int .u8 0, .int .u8 0, .int .u8 0, .int .u8 0, .int .u8 0, .int .u8 0, .int .u8 0, .int .u8 0]) t frozen
    | o => o).modify 1 fun
    | .cells _ t frozen => .cells ((Go.Pinned.utf8FirstZ.map fun (n : Nat) => Value.int .u8 n).toArray) t frozen
    | o => o) }
set_option maxRecDepth 100000 in
theorem laid_met (os : Os) : laidMet Tryz.prog Rows.regretPlaysRow.laid ((laidWorld os).forCall (fun _ _ => 0) ⟨#[], #[.slice none 0 0, .int .i64 0], []⟩).memory :=
  laidMet_of_run' 8 (by kernel_rfl) (by kernel_rfl)
theorem reads (os : Os) {H : Type} (enc : TypeId × Value → H) : ∃ places, DataW.whole enc Tryz.prog ((laidWorld os).forCall (fun _ _ => 0) ⟨#[], #[.slice none 0 0, .int .i64 0], []⟩).memory Tryz.f3.params.toList Rows.regretPlaysSpec.vars false (#[.slice none 0 0, .int .i64 0] : Array Value).toList 8 = some ([.nil, .lit (.int .i64 0)], [], places) :=
  ⟨[], by kernel_rfl⟩
set_option maxRecDepth 100000 in
theorem lifted (os : Os) (started : os.Started) (H : Type) (enc : TypeId × Value → H) (F : Stop.Interp) :
    ReturnsInHanded {} Tryz.checked os 3 .any ((OpenSpec.ofChange Rows.regretPlaysSpec).preRow enc Tryz.prog Tryz.f3 Rows.regretPlaysRow.domain false Rows.regretPlaysRow.laid) (((OpenSpec.ofChange Rows.regretPlaysSpec).at F).post enc Tryz.prog Tryz.f3 false true false false) := by
  obtain ⟨places, hx⟩ := reads os enc
  refine returnsInHanded_of_row (C := Tryz.checked) (s := OpenSpec.ofChange Rows.regretPlaysSpec) own started (by kernel_rfl) Tryz.func3
    (witness_row_at (enc := enc) (C := Tryz.checked) false (laidWorld os) #[.slice none 0 0, .int .i64 0] rfl (by kernel_rfl) (by kernel_rfl) (by kernel_rfl)
      (OpenSpec.preRow_of_cond 8 hx (by kernel_rfl) (fun k hk => by cases hk) (by kernel_rfl) (laid_met os))) ?_
  intro W base args ds gs before hval0 hW hcnd _ hsz0 _ _ _
  exact a14 (s := Rows.regretPlaysSpec) (es := es) (tb := 4) rfl laidOut (by kernel_rfl) (by kernel_rfl) rfl Tryz.underlying4
    (fun ds h => by match ds, h with | [_, _], _ => rfl) con hval0 hW hsz0
theorem over : Rows.RegretPlaysSaid :=
  OpenClaim.holds_of_cond 3 Tryz.f3 rfl rfl rfl rfl rfl rfl rfl ⟨rfl, rfl, rfl, rfl, rfl⟩ rfl rfl rfl rfl rfl (by kernel_rfl) Tryz.func3 (by kernel_rfl)
    (of_decide_eq_true (by kernel_rfl)) (by unfold Func.isWrapper; first | (rw [if_pos (by decide +kernel)]; kernel_rfl) | (rw [if_neg (by decide +kernel)]; exact ⟨rfl, rfl⟩))
    (fun os started H enc _ F => by rw [OpenClaim.pre_eq_preRow]; exact lifted os started H enc F)
theorem plain (f : FuncId) (fn : Func) (hf : Tryz.pinned.checked.prog.funcNamed "gamehall/gamehalllaw2.RegretPlays" = some f) (hfn : Tryz.pinned.checked.prog.funcs[f]? = some fn) :
    false = Tryz.pinned.checked.prog.looks [] ∧ ∀ (j : Nat) t, fn.params[j]? = some t → Tryz.pinned.checked.prog.wantsStandIn t = false := by
  obtain rfl : f = 3 := Option.some.inj ((show Tryz.prog.funcNamed "gamehall/gamehalllaw2.RegretPlays" = some 3 by kernel_rfl).symm.trans hf) |>.symm
  obtain rfl : fn = Tryz.f3 := (Option.some.inj (Tryz.func3.symm.trans hfn)).symm
  refine ⟨by kernel_rfl, fun j t ht => ?_⟩
  have hall : Tryz.f3.params.toList.all (fun t => !Tryz.prog.wantsStandIn t) = true := by kernel_rfl
  have hm : t ∈ Tryz.f3.params.toList := Array.mem_toList_iff.mpr (Array.mem_of_getElem? ht)
  have := List.all_eq_true.mp hall t hm
  exact (by simpa using this : Tryz.prog.wantsStandIn t = false)
theorem card : Rows.RegretPlaysCardSaid :=
  Claim7.holds_tied_plain_at .later [] _ _ _ _ over (fun _ h => by cases h) (by kernel_rfl) (fun _ h => by cases h) regretPlays_row_tie rfl ⟨rfl, rfl⟩ (by kernel_rfl) rfl plain (by kernel_rfl)
theorem proved : Rows.RegretPlaysCardSaid := card
#print axioms proved
end Go.Proofs.YtehakimmioclkaaGreatDoor.regretPlays
namespace Go.Proofs.YtehakimmioclkaaGreatDoor
/-- The row, under a short name, for the claim. -/
theorem regretPlays_holds : Rows.RegretPlaysCardSaid := regretPlays.proved
end Go.Proofs.YtehakimmioclkaaGreatDoor
