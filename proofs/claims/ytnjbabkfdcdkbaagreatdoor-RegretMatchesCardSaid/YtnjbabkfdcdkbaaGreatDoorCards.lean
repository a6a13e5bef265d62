/-
  DERIVED. GIVEN WITH THE SEED: THE CARDS: each row of YtnjbabkfdcdkbaaGreatDoorRows.lean that lists a variable, with what it lists TIED to the program's text (the seventh form; the later family's looks); each row that meets fmt, with fmt's text TOLD by the authors' own Lean function (tested against real Go, not proved from fmt's source: count such statements apart). THE CARD IS WHAT COUNTS. Prove the row's statement (the work); the ties are given (YtnjbabkfdcdkbaaGreatDoorTie.lean); close each card by the builder's one call (the guide's Derived/Test/ToyasCard.lean, 'card_holds'). Laid BY PROGRAM, IN A SANDBOX (cutbox-door.mjs). By AI agents, Wed Nov 11 2026. No macro, syntax, notation, axiom, sorry.
-/
import Derived.Test.YtnjbabkfdcdkbaaGreatDoorRows
import GoSem.ClaimSeven
namespace Go.Proofs.YtnjbabkfdcdkbaaGreatDoor
namespace Rows

/-- THE TIED CARD OF 'gamehalllaw2.RegretSums'. -/
def regretSumsCard : Claim7 := { stood := { row := regretSumsRow, standIns := [], harness := (true, "4a6027fc40597e5e7e73356de8d71edfa96cd00ede07ca5b4c4cb49d5bea51f3"), looks := false }, kinds := [], alts := [], laidByText := true, laidKinds := [.data, .pinned], laidTests := true, laidLooks := .later }
def RegretSumsCardSaid : Prop := Claim7.holds Tryz.pinned (.plain (OpenSpec.ofChange regretSumsSpec)) regretSumsCard

/-- THE TIED CARD OF 'gamehalllaw2.RegretMatches'. -/
def regretMatchesCard : Claim7 := { stood := { row := regretMatchesRow, standIns := [], harness := (true, "4a6027fc40597e5e7e73356de8d71edfa96cd00ede07ca5b4c4cb49d5bea51f3"), looks := false }, kinds := [], alts := [], laidByText := true, laidKinds := [.data, .pinned], laidTests := true, laidLooks := .later }
def RegretMatchesCardSaid : Prop := Claim7.holds Tryz.pinned (.plain (OpenSpec.ofChange regretMatchesSpec)) regretMatchesCard

/-- THE SECOND FORM's CARD OF 'gamehalllaw2.RegretSums'. -/
def regretSumsUptoCard : Claim7 := { stood := { row := regretSumsUptoRow, standIns := [], harness := (true, "4a6027fc40597e5e7e73356de8d71edfa96cd00ede07ca5b4c4cb49d5bea51f3"), looks := false }, kinds := [], alts := [], laidByText := true, laidKinds := [.data, .pinned], laidTests := true, laidLooks := .later }
def RegretSumsUptoCardSaid : Prop := Claim7.holds Tryz.pinned (.plain (OpenSpec.upto regretSumsSpec)) regretSumsUptoCard

/-- THE SECOND FORM's CARD OF 'gamehalllaw2.RegretMatches'. -/
def regretMatchesUptoCard : Claim7 := { stood := { row := regretMatchesUptoRow, standIns := [], harness := (true, "4a6027fc40597e5e7e73356de8d71edfa96cd00ede07ca5b4c4cb49d5bea51f3"), looks := false }, kinds := [], alts := [], laidByText := true, laidKinds := [.data, .pinned], laidTests := true, laidLooks := .later }
def RegretMatchesUptoCardSaid : Prop := Claim7.holds Tryz.pinned (.plain (OpenSpec.upto regretMatchesSpec)) regretMatchesUptoCard
end Rows
end Go.Proofs.YtnjbabkfdcdkbaaGreatDoor
