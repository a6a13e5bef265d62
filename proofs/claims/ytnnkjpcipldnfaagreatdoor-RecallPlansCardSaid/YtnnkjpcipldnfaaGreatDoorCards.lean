/-
  DERIVED. GIVEN WITH THE SEED: THE CARDS: each row of YtnnkjpcipldnfaaGreatDoorRows.lean that lists a variable, with what it lists TIED to the program's text (the seventh form; the later family's looks); each row that meets fmt, with fmt's text TOLD by the authors' own Lean function (tested against real Go, not proved from fmt's source: count such statements apart). THE CARD IS WHAT COUNTS. Prove the row's statement (the work); the ties are given (YtnnkjpcipldnfaaGreatDoorTie.lean); close each card by the builder's one call (the guide's Derived/Test/ToyasCard.lean, 'card_holds'). Laid BY PROGRAM, IN A SANDBOX (cutbox-door.mjs). By AI agents, Wed Nov 11 2026. No macro, syntax, notation, axiom, sorry.
-/
import Derived.Test.YtnnkjpcipldnfaaGreatDoorRows
import GoSem.ClaimSeven
namespace Go.Proofs.YtnnkjpcipldnfaaGreatDoor
namespace Rows

/-- THE TIED CARD OF 'gamehalllaw2.RecallPerfect'. -/
def recallPerfectCard : Claim7 := { stood := { row := recallPerfectRow, standIns := [], harness := (true, "466be8aa489efc4003fcae8ed99a76de6b40701294569cdbd7a6738992647a47"), looks := false }, kinds := [], alts := [], laidByText := true, laidKinds := [.data, .pinned], laidTests := true, laidLooks := .later }
def RecallPerfectCardSaid : Prop := Claim7.holds Tryz.pinned (.plain (OpenSpec.ofChange recallPerfectSpec)) recallPerfectCard

/-- THE TIED CARD OF 'gamehalllaw2.RecallSequences'. -/
def recallSequencesCard : Claim7 := { stood := { row := recallSequencesRow, standIns := [], harness := (true, "466be8aa489efc4003fcae8ed99a76de6b40701294569cdbd7a6738992647a47"), looks := false }, kinds := [], alts := [], laidByText := true, laidKinds := [.data, .pinned], laidTests := true, laidLooks := .later }
def RecallSequencesCardSaid : Prop := Claim7.holds Tryz.pinned (.plain (OpenSpec.ofChange recallSequencesSpec)) recallSequencesCard

/-- THE TIED CARD OF 'gamehalllaw2.RecallPlans'. -/
def recallPlansCard : Claim7 := { stood := { row := recallPlansRow, standIns := [], harness := (true, "466be8aa489efc4003fcae8ed99a76de6b40701294569cdbd7a6738992647a47"), looks := false }, kinds := [], alts := [], laidByText := true, laidKinds := [.data, .pinned], laidTests := true, laidLooks := .later }
def RecallPlansCardSaid : Prop := Claim7.holds Tryz.pinned (.plain (OpenSpec.ofChange recallPlansSpec)) recallPlansCard

/-- THE TIED CARD OF 'gamehalllaw2.ReplyValues'. -/
def replyValuesCard : Claim7 := { stood := { row := replyValuesRow, standIns := [], harness := (true, "466be8aa489efc4003fcae8ed99a76de6b40701294569cdbd7a6738992647a47"), looks := false }, kinds := [], alts := [], laidByText := true, laidKinds := [.data, .pinned], laidTests := true, laidLooks := .later }
def ReplyValuesCardSaid : Prop := Claim7.holds Tryz.pinned (.plain (OpenSpec.ofChange replyValuesSpec)) replyValuesCard

/-- THE TIED CARD OF 'gamehalllaw2.ReplyBests'. -/
def replyBestsCard : Claim7 := { stood := { row := replyBestsRow, standIns := [], harness := (true, "466be8aa489efc4003fcae8ed99a76de6b40701294569cdbd7a6738992647a47"), looks := false }, kinds := [], alts := [], laidByText := true, laidKinds := [.data, .pinned], laidTests := true, laidLooks := .later }
def ReplyBestsCardSaid : Prop := Claim7.holds Tryz.pinned (.plain (OpenSpec.ofChange replyBestsSpec)) replyBestsCard

/-- THE SECOND FORM's CARD OF 'gamehalllaw2.RecallPerfect'. -/
def recallPerfectUptoCard : Claim7 := { stood := { row := recallPerfectUptoRow, standIns := [], harness := (true, "466be8aa489efc4003fcae8ed99a76de6b40701294569cdbd7a6738992647a47"), looks := false }, kinds := [], alts := [], laidByText := true, laidKinds := [.data, .pinned], laidTests := true, laidLooks := .later }
def RecallPerfectUptoCardSaid : Prop := Claim7.holds Tryz.pinned (.plain (OpenSpec.upto recallPerfectSpec)) recallPerfectUptoCard

/-- THE SECOND FORM's CARD OF 'gamehalllaw2.RecallSequences'. -/
def recallSequencesUptoCard : Claim7 := { stood := { row := recallSequencesUptoRow, standIns := [], harness := (true, "466be8aa489efc4003fcae8ed99a76de6b40701294569cdbd7a6738992647a47"), looks := false }, kinds := [], alts := [], laidByText := true, laidKinds := [.data, .pinned], laidTests := true, laidLooks := .later }
def RecallSequencesUptoCardSaid : Prop := Claim7.holds Tryz.pinned (.plain (OpenSpec.upto recallSequencesSpec)) recallSequencesUptoCard

/-- THE SECOND FORM's CARD OF 'gamehalllaw2.RecallPlans'. -/
def recallPlansUptoCard : Claim7 := { stood := { row := recallPlansUptoRow, standIns := [], harness := (true, "466be8aa489efc4003fcae8ed99a76de6b40701294569cdbd7a6738992647a47"), looks := false }, kinds := [], alts := [], laidByText := true, laidKinds := [.data, .pinned], laidTests := true, laidLooks := .later }
def RecallPlansUptoCardSaid : Prop := Claim7.holds Tryz.pinned (.plain (OpenSpec.upto recallPlansSpec)) recallPlansUptoCard

/-- THE SECOND FORM's CARD OF 'gamehalllaw2.ReplyValues'. -/
def replyValuesUptoCard : Claim7 := { stood := { row := replyValuesUptoRow, standIns := [], harness := (true, "466be8aa489efc4003fcae8ed99a76de6b40701294569cdbd7a6738992647a47"), looks := false }, kinds := [], alts := [], laidByText := true, laidKinds := [.data, .pinned], laidTests := true, laidLooks := .later }
def ReplyValuesUptoCardSaid : Prop := Claim7.holds Tryz.pinned (.plain (OpenSpec.upto replyValuesSpec)) replyValuesUptoCard

/-- THE SECOND FORM's CARD OF 'gamehalllaw2.ReplyBests'. -/
def replyBestsUptoCard : Claim7 := { stood := { row := replyBestsUptoRow, standIns := [], harness := (true, "466be8aa489efc4003fcae8ed99a76de6b40701294569cdbd7a6738992647a47"), looks := false }, kinds := [], alts := [], laidByText := true, laidKinds := [.data, .pinned], laidTests := true, laidLooks := .later }
def ReplyBestsUptoCardSaid : Prop := Claim7.holds Tryz.pinned (.plain (OpenSpec.upto replyBestsSpec)) replyBestsUptoCard
end Rows
end Go.Proofs.YtnnkjpcipldnfaaGreatDoor
