/-
  DERIVED. GIVEN WITH THE SEED: THE CARDS: each row of YtolikobhjmnedaaGreatDoorRows.lean that lists a variable, with what it lists TIED to the program's text (the seventh form; the later family's looks); each row that meets fmt, with fmt's text TOLD by the authors' own Lean function (tested against real Go, not proved from fmt's source: count such statements apart). THE CARD IS WHAT COUNTS. Prove the row's statement (the work); the ties are given (YtolikobhjmnedaaGreatDoorTie.lean); close each card by the builder's one call (the guide's Derived/Test/ToyasCard.lean, 'card_holds'). Laid BY PROGRAM, IN A SANDBOX (cutbox-door.mjs). By AI agents, Wed Nov 11 2026. No macro, syntax, notation, axiom, sorry.
-/
import Derived.Test.YtolikobhjmnedaaGreatDoorRows
import GoSem.ClaimSeven
namespace Go.Proofs.YtolikobhjmnedaaGreatDoor
namespace Rows

/-- THE TIED CARD OF 'gamehalllaw2.RatLists'. -/
def ratListsCard : Claim7 := { stood := { row := ratListsRow, standIns := [], harness := (true, "e8da74fdbd13a53bffdc8168fae041896a0d4bbea38940b357e2a977fb5fcabd"), looks := false }, kinds := [], alts := [], laidByText := true, laidKinds := [.data, .pinned], laidTests := true, laidLooks := .later }
def RatListsCardSaid : Prop := Claim7.holds Tryz.pinned (.plain (OpenSpec.ofChange ratListsSpec)) ratListsCard

/-- THE SECOND FORM's CARD OF 'gamehalllaw2.RatLists'. -/
def ratListsUptoCard : Claim7 := { stood := { row := ratListsUptoRow, standIns := [], harness := (true, "e8da74fdbd13a53bffdc8168fae041896a0d4bbea38940b357e2a977fb5fcabd"), looks := false }, kinds := [], alts := [], laidByText := true, laidKinds := [.data, .pinned], laidTests := true, laidLooks := .later }
def RatListsUptoCardSaid : Prop := Claim7.holds Tryz.pinned (.plain (OpenSpec.upto ratListsSpec)) ratListsUptoCard
end Rows
end Go.Proofs.YtolikobhjmnedaaGreatDoor
