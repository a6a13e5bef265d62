/-
  DERIVED. GIVEN WITH THE SEED: THE CARDS: each row of YtehakimmioclkaaGreatDoorRows.lean that lists a variable, with what it lists TIED to the program's text (the seventh form; the later family's looks); each row that meets fmt, with fmt's text TOLD by the authors' own Lean function (tested against real Go, not proved from fmt's source: count such statements apart). THE CARD IS WHAT COUNTS. Prove the row's statement (the work); the ties are given (YtehakimmioclkaaGreatDoorTie.lean); close each card by the builder's one call (the guide's Derived/Test/ToyasCard.lean, 'card_holds'). Laid BY PROGRAM, IN A SANDBOX (cutbox-door.mjs). By AI agents, Wed Nov 11 2026. No macro, syntax, notation, axiom, sorry.
-/
import Derived.Test.YtehakimmioclkaaGreatDoorRows
import GoSem.ClaimSeven
namespace Go.Proofs.YtehakimmioclkaaGreatDoor
namespace Rows

/-- THE TIED CARD OF 'gamehalllaw2.RegretPlays'. -/
def regretPlaysCard : Claim7 := { stood := { row := regretPlaysRow, standIns := [], harness := (true, "36aeb0f91ce38f346626353c6c169f76c573e9add8183d7259acfc314ddc7269"), looks := false }, kinds := [], alts := [], laidByText := true, laidKinds := [.data, .pinned], laidTests := true, laidLooks := .later }
def RegretPlaysCardSaid : Prop := Claim7.holds Tryz.pinned (.plain (OpenSpec.ofChange regretPlaysSpec)) regretPlaysCard

/-- THE TIED CARD OF 'gamehalllaw2.RegretAverages'. -/
def regretAveragesCard : Claim7 := { stood := { row := regretAveragesRow, standIns := [], harness := (true, "36aeb0f91ce38f346626353c6c169f76c573e9add8183d7259acfc314ddc7269"), looks := false }, kinds := [], alts := [], laidByText := true, laidKinds := [.data, .pinned], laidTests := true, laidLooks := .later }
def RegretAveragesCardSaid : Prop := Claim7.holds Tryz.pinned (.plain (OpenSpec.ofChange regretAveragesSpec)) regretAveragesCard

/-- THE SECOND FORM's CARD OF 'gamehalllaw2.RegretPlays'. -/
def regretPlaysUptoCard : Claim7 := { stood := { row := regretPlaysUptoRow, standIns := [], harness := (true, "36aeb0f91ce38f346626353c6c169f76c573e9add8183d7259acfc314ddc7269"), looks := false }, kinds := [], alts := [], laidByText := true, laidKinds := [.data, .pinned], laidTests := true, laidLooks := .later }
def RegretPlaysUptoCardSaid : Prop := Claim7.holds Tryz.pinned (.plain (OpenSpec.upto regretPlaysSpec)) regretPlaysUptoCard

/-- THE SECOND FORM's CARD OF 'gamehalllaw2.RegretAverages'. -/
def regretAveragesUptoCard : Claim7 := { stood := { row := regretAveragesUptoRow, standIns := [], harness := (true, "36aeb0f91ce38f346626353c6c169f76c573e9add8183d7259acfc314ddc7269"), looks := false }, kinds := [], alts := [], laidByText := true, laidKinds := [.data, .pinned], laidTests := true, laidLooks := .later }
def RegretAveragesUptoCardSaid : Prop := Claim7.holds Tryz.pinned (.plain (OpenSpec.upto regretAveragesSpec)) regretAveragesUptoCard
end Rows
end Go.Proofs.YtehakimmioclkaaGreatDoor
