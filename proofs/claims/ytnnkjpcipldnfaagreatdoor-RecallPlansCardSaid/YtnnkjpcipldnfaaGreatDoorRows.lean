/-
  NARROWER THAN 'FOR EVERY INPUT', by the rows' own cells (each row's printed sentence says how): RecallPerfect: laid · RecallSequences: laid · RecallPlans: laid · ReplyValues: laid · ReplyBests: laid.
  DERIVED. THE GIVEN ROWS OF THIS SEAT. 5 by the template 'for every input the law returns true; each argument reads behind the call as it read before'; 0 by the template 'total and deterministic' (their statements: YtnnkjpcipldnfaaGreatDoorTotals.lean).
  GIVEN WITH THE SEED: the statements are not yours to turn. If you find one false, say at which input.
  Laid BY PROGRAM, IN A SANDBOX (cutbox-rows.mjs): the forced cells as the released guide's own fill.sh prints them over the translation 997920a8ae516626… (all of the seat's roots in one cut). By AI agents, Wed Nov 11 2026. No macro, syntax, notation, axiom, sorry.
-/
import Derived.Test.YtnnkjpcipldnfaaGreatDoorChecked
import GoSem.PinnedTables
import GoSem.Claim
import GoSem.ClaimJoined
import GoSem.ClaimMapViews
import Derived.JoinedTies
import Derived.KernelRfl
namespace Go.Proofs.YtnnkjpcipldnfaaGreatDoor
/- THE CELL 'sum', in the pinned program and in every row, IS THE sha256 OF THE DUMP (.gsa) THAT YtnnkjpcipldnfaaGreatDoorProg.lean LOADS. Nothing in Lean hashes anything: it is a label: what it is worth is what the hold of that sum in a sandbox is worth. -/
noncomputable def Tryz.pinned : Pinned := { name := "ytnnkjpcipldnfaagreatdoor", sum := "997920a8ae516626cfc43d91145565eac96c656c61e16c7ed1e71df4e1515d55", checked := Tryz.checked }
namespace Rows
def none {H : Type} : Left H := { results := [], args := [] }

/- WHAT THE LISTED PACKAGE-LEVEL VARIABLES READ AS WHEN THE CALL BEGINS. Each datum BY PROGRAM (the guide's laid-datum.mjs) off the statement by which the dump's own 'gosem.cut.vars' lays the variable. In a bare row this is a premise. The card (YtnnkjpcipldnfaaGreatDoorCards.lean) ties it to the program's text. -/
def laid_unicode_utf8_acceptRanges {H : Type} : DataW H := .agg [.agg [.lit (.int .u8 128), .lit (.int .u8 191)], .agg [.lit (.int .u8 160), .lit (.int .u8 191)], .agg [.lit (.int .u8 128), .lit (.int .u8 159)], .agg [.lit (.int .u8 144), .lit (.int .u8 191)], .agg [.lit (.int .u8 128), .lit (.int .u8 143)], .agg [.lit (.int .u8 0), .lit (.int .u8 0)], .agg [.lit (.int .u8 0), .lit (.int .u8 0)], .agg [.lit (.int .u8 0), .lit (.int .u8 0)], .agg [.lit (.int .u8 0), .lit (.int .u8 0)], .agg [.lit (.int .u8 0), .lit (.int .u8 0)], .agg [.lit (.int .u8 0), .lit (.int .u8 0)], .agg [.lit (.int .u8 0), .lit (.int .u8 0)], .agg [.lit (.int .u8 0), .lit (.int .u8 0)], .agg [.lit (.int .u8 0), .lit (.int .u8 0)], .agg [.lit (.int .u8 0), .lit (.int .u8 0)], .agg [.lit (.int .u8 0), .lit (.int .u8 0)]]
/-- One of Go's own tables, pinned by name: the form's constant. -/
def laid_unicode_utf8_first : DataW Unit := Go.Pinned.utf8First

/-- 'gamehalllaw2.RecallPerfect': WHATEVER THE INPUT: true; the input reads as it did. -/
def recallPerfectSpec : ChangeSpec := { name := "recallPerfect", fn := fun _ => fun
  | [d1, d2] => { results := [.lit (.bool true)], args := [d1, d2] }
  | _ => none }
def recallPerfectRow : OpenClaim := { program := "ytnnkjpcipldnfaagreatdoor", sum := "997920a8ae516626cfc43d91145565eac96c656c61e16c7ed1e71df4e1515d55", func := "gamehall/gamehalllaw2.RecallPerfect", spec := "recallPerfect", inPlace := ["internal/bytealg.IndexByteString", "internal/bytealg.IndexString"], unfollowed := true, recurses := true, named := ["internal/bytealg.MaxLen", "unicode/utf8.first", "unicode/utf8.acceptRanges"], apart := false, laid := [("unicode/utf8.acceptRanges", laid_unicode_utf8_acceptRanges), ("unicode/utf8.first", laid_unicode_utf8_first)] }
def RecallPerfectSaid : Prop := recallPerfectRow.holds Tryz.pinned (OpenSpec.ofChange recallPerfectSpec)

/-- ITS FALSE NEIGHBOUR: 'it returns false'. Refute it at one input. -/
def recallPerfectWrong : ChangeSpec := { name := "recallPerfect", fn := fun _ => fun
  | [d1, d2] => { results := [.lit (.bool false)], args := [d1, d2] }
  | _ => none }
def RecallPerfectWrongFalsely : Prop := recallPerfectRow.holds Tryz.pinned (OpenSpec.ofChange recallPerfectWrong)

/-- 'gamehalllaw2.RecallSequences': WHATEVER THE INPUT: true; the input reads as it did. -/
def recallSequencesSpec : ChangeSpec := { name := "recallSequences", fn := fun _ => fun
  | [d1, d2] => { results := [.lit (.bool true)], args := [d1, d2] }
  | _ => none }
def recallSequencesRow : OpenClaim := { program := "ytnnkjpcipldnfaagreatdoor", sum := "997920a8ae516626cfc43d91145565eac96c656c61e16c7ed1e71df4e1515d55", func := "gamehall/gamehalllaw2.RecallSequences", spec := "recallSequences", inPlace := ["internal/bytealg.IndexByteString", "internal/bytealg.IndexString"], unfollowed := true, recurses := true, named := ["internal/bytealg.MaxLen", "unicode/utf8.first", "unicode/utf8.acceptRanges"], apart := false, laid := [("unicode/utf8.acceptRanges", laid_unicode_utf8_acceptRanges), ("unicode/utf8.first", laid_unicode_utf8_first)] }
def RecallSequencesSaid : Prop := recallSequencesRow.holds Tryz.pinned (OpenSpec.ofChange recallSequencesSpec)

/-- ITS FALSE NEIGHBOUR: 'it returns false'. Refute it at one input. -/
def recallSequencesWrong : ChangeSpec := { name := "recallSequences", fn := fun _ => fun
  | [d1, d2] => { results := [.lit (.bool false)], args := [d1, d2] }
  | _ => none }
def RecallSequencesWrongFalsely : Prop := recallSequencesRow.holds Tryz.pinned (OpenSpec.ofChange recallSequencesWrong)

/-- 'gamehalllaw2.RecallPlans': WHATEVER THE INPUT: true; the input reads as it did. -/
def recallPlansSpec : ChangeSpec := { name := "recallPlans", fn := fun _ => fun
  | [d1, d2, d3] => { results := [.lit (.bool true)], args := [d1, d2, d3] }
  | _ => none }
def recallPlansRow : OpenClaim := { program := "ytnnkjpcipldnfaagreatdoor", sum := "997920a8ae516626cfc43d91145565eac96c656c61e16c7ed1e71df4e1515d55", func := "gamehall/gamehalllaw2.RecallPlans", spec := "recallPlans", inPlace := ["internal/bytealg.IndexByteString", "internal/bytealg.IndexString"], unfollowed := true, recurses := true, named := ["internal/bytealg.MaxLen", "unicode/utf8.first", "unicode/utf8.acceptRanges"], apart := false, laid := [("unicode/utf8.acceptRanges", laid_unicode_utf8_acceptRanges), ("unicode/utf8.first", laid_unicode_utf8_first)] }
def RecallPlansSaid : Prop := recallPlansRow.holds Tryz.pinned (OpenSpec.ofChange recallPlansSpec)

/-- ITS FALSE NEIGHBOUR: 'it returns false'. Refute it at one input. -/
def recallPlansWrong : ChangeSpec := { name := "recallPlans", fn := fun _ => fun
  | [d1, d2, d3] => { results := [.lit (.bool false)], args := [d1, d2, d3] }
  | _ => none }
def RecallPlansWrongFalsely : Prop := recallPlansRow.holds Tryz.pinned (OpenSpec.ofChange recallPlansWrong)

/-- 'gamehalllaw2.ReplyValues': WHATEVER THE INPUT: true; the input reads as it did. -/
def replyValuesSpec : ChangeSpec := { name := "replyValues", fn := fun _ => fun
  | [d1, d2, d3] => { results := [.lit (.bool true)], args := [d1, d2, d3] }
  | _ => none }
def replyValuesRow : OpenClaim := { program := "ytnnkjpcipldnfaagreatdoor", sum := "997920a8ae516626cfc43d91145565eac96c656c61e16c7ed1e71df4e1515d55", func := "gamehall/gamehalllaw2.ReplyValues", spec := "replyValues", inPlace := ["internal/bytealg.IndexByteString", "internal/bytealg.IndexString"], unfollowed := true, recurses := true, named := ["internal/bytealg.MaxLen", "unicode/utf8.first", "unicode/utf8.acceptRanges"], apart := false, laid := [("unicode/utf8.acceptRanges", laid_unicode_utf8_acceptRanges), ("unicode/utf8.first", laid_unicode_utf8_first)] }
def ReplyValuesSaid : Prop := replyValuesRow.holds Tryz.pinned (OpenSpec.ofChange replyValuesSpec)

/-- ITS FALSE NEIGHBOUR: 'it returns false'. Refute it at one input. -/
def replyValuesWrong : ChangeSpec := { name := "replyValues", fn := fun _ => fun
  | [d1, d2, d3] => { results := [.lit (.bool false)], args := [d1, d2, d3] }
  | _ => none }
def ReplyValuesWrongFalsely : Prop := replyValuesRow.holds Tryz.pinned (OpenSpec.ofChange replyValuesWrong)

/-- 'gamehalllaw2.ReplyBests': WHATEVER THE INPUT: true; the input reads as it did. -/
def replyBestsSpec : ChangeSpec := { name := "replyBests", fn := fun _ => fun
  | [d1, d2, d3] => { results := [.lit (.bool true)], args := [d1, d2, d3] }
  | _ => none }
def replyBestsRow : OpenClaim := { program := "ytnnkjpcipldnfaagreatdoor", sum := "997920a8ae516626cfc43d91145565eac96c656c61e16c7ed1e71df4e1515d55", func := "gamehall/gamehalllaw2.ReplyBests", spec := "replyBests", inPlace := ["internal/bytealg.IndexByteString", "internal/bytealg.IndexString"], unfollowed := true, recurses := true, named := ["internal/bytealg.MaxLen", "unicode/utf8.first", "unicode/utf8.acceptRanges"], apart := false, laid := [("unicode/utf8.acceptRanges", laid_unicode_utf8_acceptRanges), ("unicode/utf8.first", laid_unicode_utf8_first)] }
def ReplyBestsSaid : Prop := replyBestsRow.holds Tryz.pinned (OpenSpec.ofChange replyBestsSpec)

/-- ITS FALSE NEIGHBOUR: 'it returns false'. Refute it at one input. -/
def replyBestsWrong : ChangeSpec := { name := "replyBests", fn := fun _ => fun
  | [d1, d2, d3] => { results := [.lit (.bool false)], args := [d1, d2, d3] }
  | _ => none }
def ReplyBestsWrongFalsely : Prop := replyBestsRow.holds Tryz.pinned (OpenSpec.ofChange replyBestsWrong)

/- THE SECOND FORM. 'bulk': how many values and letters a reading holds, each counted each time it is reached (what is shared counts as often as it is met; a slice's spare places count too). A statement '..UptoSaid' is the law's where the arguments, and the package variables that the reading takes, are together of bulk at most 1048576: NARROWER than '..Said'. Prove '..Said' where nothing that the law and all that it calls make is longer than what came in: it says more and counts as full. Else prove '..UptoSaid'. A law counts once. -/
mutual
def uptoBulk {H : Type} : DataW H → Nat
  | .lit (.string bytes) => bytes.length + 1
  | .lit _ => 1
  | .nil => 1
  | .ptr d => uptoBulk d + 1
  | .slice elems spare => uptoBulkAll elems + uptoBulkAll spare + 1
  | .agg parts => uptoBulkAll parts + 1
  | .iface _ d => uptoBulk d + 1
  | .map entries => uptoBulkEntries entries + 1
  | .held _ => 1
def uptoBulkAll {H : Type} : List (DataW H) → Nat
  | [] => 0
  | d :: r => uptoBulk d + uptoBulkAll r
def uptoBulkEntries {H : Type} : List (Lit × DataW H) → Nat
  | [] => 0
  | x :: r => uptoBulkEntry x + uptoBulkEntries r
def uptoBulkEntry {H : Type} : Lit × DataW H → Nat
  | (.string bytes, d) => bytes.length + uptoBulk d + 1
  | (_, d) => uptoBulk d + 1
 end
def uptoSmall : (H : Type) → List (DataW H) → Bool := fun _ ds => decide (uptoBulkAll ds ≤ 1048576)
def OpenSpec.upto (s : _root_.Go.ChangeSpec) : _root_.Go.OpenSpec := { _root_.Go.OpenSpec.ofChange s with cond := some uptoSmall }

/-- 'gamehalllaw2.RecallPerfect', WHERE WHAT IT READS IS OF BULK AT MOST 1048576: true; the input reads as it did. -/
def recallPerfectUptoRow : OpenClaim := { program := "ytnnkjpcipldnfaagreatdoor", sum := "997920a8ae516626cfc43d91145565eac96c656c61e16c7ed1e71df4e1515d55", func := "gamehall/gamehalllaw2.RecallPerfect", spec := "recallPerfect", inPlace := ["internal/bytealg.IndexByteString", "internal/bytealg.IndexString"], unfollowed := true, recurses := true, named := ["internal/bytealg.MaxLen", "unicode/utf8.first", "unicode/utf8.acceptRanges"], apart := false, laid := [("unicode/utf8.acceptRanges", laid_unicode_utf8_acceptRanges), ("unicode/utf8.first", laid_unicode_utf8_first)], narrowed := true }
def RecallPerfectUptoSaid : Prop := recallPerfectUptoRow.holds Tryz.pinned (OpenSpec.upto recallPerfectSpec)

/-- 'gamehalllaw2.RecallSequences', WHERE WHAT IT READS IS OF BULK AT MOST 1048576: true; the input reads as it did. -/
def recallSequencesUptoRow : OpenClaim := { program := "ytnnkjpcipldnfaagreatdoor", sum := "997920a8ae516626cfc43d91145565eac96c656c61e16c7ed1e71df4e1515d55", func := "gamehall/gamehalllaw2.RecallSequences", spec := "recallSequences", inPlace := ["internal/bytealg.IndexByteString", "internal/bytealg.IndexString"], unfollowed := true, recurses := true, named := ["internal/bytealg.MaxLen", "unicode/utf8.first", "unicode/utf8.acceptRanges"], apart := false, laid := [("unicode/utf8.acceptRanges", laid_unicode_utf8_acceptRanges), ("unicode/utf8.first", laid_unicode_utf8_first)], narrowed := true }
def RecallSequencesUptoSaid : Prop := recallSequencesUptoRow.holds Tryz.pinned (OpenSpec.upto recallSequencesSpec)

/-- 'gamehalllaw2.RecallPlans', WHERE WHAT IT READS IS OF BULK AT MOST 1048576: true; the input reads as it did. -/
def recallPlansUptoRow : OpenClaim := { program := "ytnnkjpcipldnfaagreatdoor", sum := "997920a8ae516626cfc43d91145565eac96c656c61e16c7ed1e71df4e1515d55", func := "gamehall/gamehalllaw2.RecallPlans", spec := "recallPlans", inPlace := ["internal/bytealg.IndexByteString", "internal/bytealg.IndexString"], unfollowed := true, recurses := true, named := ["internal/bytealg.MaxLen", "unicode/utf8.first", "unicode/utf8.acceptRanges"], apart := false, laid := [("unicode/utf8.acceptRanges", laid_unicode_utf8_acceptRanges), ("unicode/utf8.first", laid_unicode_utf8_first)], narrowed := true }
def RecallPlansUptoSaid : Prop := recallPlansUptoRow.holds Tryz.pinned (OpenSpec.upto recallPlansSpec)

/-- 'gamehalllaw2.ReplyValues', WHERE WHAT IT READS IS OF BULK AT MOST 1048576: true; the input reads as it did. -/
def replyValuesUptoRow : OpenClaim := { program := "ytnnkjpcipldnfaagreatdoor", sum := "997920a8ae516626cfc43d91145565eac96c656c61e16c7ed1e71df4e1515d55", func := "gamehall/gamehalllaw2.ReplyValues", spec := "replyValues", inPlace := ["internal/bytealg.IndexByteString", "internal/bytealg.IndexString"], unfollowed := true, recurses := true, named := ["internal/bytealg.MaxLen", "unicode/utf8.first", "unicode/utf8.acceptRanges"], apart := false, laid := [("unicode/utf8.acceptRanges", laid_unicode_utf8_acceptRanges), ("unicode/utf8.first", laid_unicode_utf8_first)], narrowed := true }
def ReplyValuesUptoSaid : Prop := replyValuesUptoRow.holds Tryz.pinned (OpenSpec.upto replyValuesSpec)

/-- 'gamehalllaw2.ReplyBests', WHERE WHAT IT READS IS OF BULK AT MOST 1048576: true; the input reads as it did. -/
def replyBestsUptoRow : OpenClaim := { program := "ytnnkjpcipldnfaagreatdoor", sum := "997920a8ae516626cfc43d91145565eac96c656c61e16c7ed1e71df4e1515d55", func := "gamehall/gamehalllaw2.ReplyBests", spec := "replyBests", inPlace := ["internal/bytealg.IndexByteString", "internal/bytealg.IndexString"], unfollowed := true, recurses := true, named := ["internal/bytealg.MaxLen", "unicode/utf8.first", "unicode/utf8.acceptRanges"], apart := false, laid := [("unicode/utf8.acceptRanges", laid_unicode_utf8_acceptRanges), ("unicode/utf8.first", laid_unicode_utf8_first)], narrowed := true }
def ReplyBestsUptoSaid : Prop := replyBestsUptoRow.holds Tryz.pinned (OpenSpec.upto replyBestsSpec)

end Rows
end Go.Proofs.YtnnkjpcipldnfaaGreatDoor
