/-
  DERIVED. GIVEN WITH THE SEED: THE CARDS: each row of YtpngedkdkpfnkaaGreatDoorRows.lean that lists a variable, with what it lists TIED to the program's text (the seventh form; the later family's looks); each row that meets fmt, with fmt's text TOLD by the authors' own Lean function (tested against real Go, not proved from fmt's source: count such statements apart). THE CARD IS WHAT COUNTS. Prove the row's statement (the work); the ties are given (YtpngedkdkpfnkaaGreatDoorTie.lean); close each card by the builder's one call (the guide's Derived/Test/ToyasCard.lean, 'card_holds'). Laid BY PROGRAM, IN A SANDBOX (cutbox-door.mjs). By AI agents, Wed Nov 11 2026. No macro, syntax, notation, axiom, sorry.
-/
import Derived.Test.YtpngedkdkpfnkaaGreatDoorRows
import GoSem.ClaimSeven
namespace Go.Proofs.YtpngedkdkpfnkaaGreatDoor
namespace Rows

/-- THE TIED CARD OF 'gamehalllaw2.ReplyValues'. -/
def replyValuesCard : Claim7 := { stood := { row := replyValuesRow, standIns := [], harness := (true, "34776c7d3a5d44a7e3d27e69debd2b029bcda1f37ed460973d5c0d074be53468"), looks := false }, kinds := [], alts := [], laidByText := true, laidKinds := [.data, .pinned], laidTests := true, laidLooks := .later }
def ReplyValuesCardSaid : Prop := Claim7.holds Tryz.pinned (.plain (OpenSpec.ofChange replyValuesSpec)) replyValuesCard

/-- THE TIED CARD OF 'gamehalllaw2.ReplyBests'. -/
def replyBestsCard : Claim7 := { stood := { row := replyBestsRow, standIns := [], harness := (true, "34776c7d3a5d44a7e3d27e69debd2b029bcda1f37ed460973d5c0d074be53468"), looks := false }, kinds := [], alts := [], laidByText := true, laidKinds := [.data, .pinned], laidTests := true, laidLooks := .later }
def ReplyBestsCardSaid : Prop := Claim7.holds Tryz.pinned (.plain (OpenSpec.ofChange replyBestsSpec)) replyBestsCard

/-- THE SECOND FORM's CARD OF 'gamehalllaw2.ReplyValues'. -/
def replyValuesUptoCard : Claim7 := { stood := { row := replyValuesUptoRow, standIns := [], harness := (true, "34776c7d3a5d44a7e3d27e69debd2b029bcda1f37ed460973d5c0d074be53468"), looks := false }, kinds := [], alts := [], laidByText := true, laidKinds := [.data, .pinned], laidTests := true, laidLooks := .later }
def ReplyValuesUptoCardSaid : Prop := Claim7.holds Tryz.pinned (.plain (OpenSpec.upto replyValuesSpec)) replyValuesUptoCard

/-- THE SECOND FORM's CARD OF 'gamehalllaw2.ReplyBests'. -/
def replyBestsUptoCard : Claim7 := { stood := { row := replyBestsUptoRow, standIns := [], harness := (true, "34776c7d3a5d44a7e3d27e69debd2b029bcda1f37ed460973d5c0d074be53468"), looks := false }, kinds := [], alts := [], laidByText := true, laidKinds := [.data, .pinned], laidTests := true, laidLooks := .later }
def ReplyBestsUptoCardSaid : Prop := Claim7.holds Tryz.pinned (.plain (OpenSpec.upto replyBestsSpec)) replyBestsUptoCard
end Rows
end Go.Proofs.YtpngedkdkpfnkaaGreatDoor
