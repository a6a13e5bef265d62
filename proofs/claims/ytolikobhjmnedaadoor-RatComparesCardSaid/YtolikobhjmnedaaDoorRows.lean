/-
  NARROWER THAN 'FOR EVERY INPUT', by the rows' own cells (each row's printed sentence says how): NatChecks: laid · NatSums: laid · NatProducts: laid · NatCounts: laid · RatChecks: laid · RatOfs: laid · RatSums: laid · RatProducts: laid · RatCompares: laid.
  DERIVED. THE GIVEN ROWS OF THIS SEAT. 9 by the template 'for every input the law returns true; each argument reads behind the call as it read before'; 0 by the template 'total and deterministic' (their statements: YtolikobhjmnedaaDoorTotals.lean).
  GIVEN WITH THE SEED: the statements are not yours to turn. If you find one false, say at which input.
  Laid BY PROGRAM, IN A SANDBOX (cutbox-rows.mjs): the forced cells as the released guide's own fill.sh prints them over the translation f7b517d6f8be4b00… (all of the seat's roots in one cut). By AI agents, Wed Nov 11 2026. No macro, syntax, notation, axiom, sorry.
-/
import Derived.Test.YtolikobhjmnedaaDoorChecked
import GoSem.PinnedTables
import GoSem.Claim
import GoSem.ClaimJoined
import GoSem.ClaimMapViews
import Derived.JoinedTies
import Derived.KernelRfl
namespace Go.Proofs.YtolikobhjmnedaaDoor
/- THE CELL 'sum', in the pinned program and in every row, IS THE sha256 OF THE DUMP (.gsa) THAT YtolikobhjmnedaaDoorProg.lean LOADS. Nothing in Lean hashes anything: it is a label: what it is worth is what the hold of that sum in a sandbox is worth. -/
noncomputable def Tryd.pinned : Pinned := { name := "ytolikobhjmnedaadoor", sum := "f7b517d6f8be4b00a0d8adc67e0ea4f123297b2166d819aae8883d623cc362dd", checked := Tryd.checked }
namespace Rows
def none {H : Type} : Left H := { results := [], args := [] }

/- WHAT THE LISTED PACKAGE-LEVEL VARIABLES READ AS WHEN THE CALL BEGINS. Each datum BY PROGRAM (the guide's laid-datum.mjs) off the statement by which the dump's own 'gosem.cut.vars' lays the variable. In a bare row this is a premise. The card (YtolikobhjmnedaaDoorCards.lean) ties it to the program's text. -/
def laid_unicode_utf8_acceptRanges {H : Type} : DataW H := .agg [.agg [.lit (.int .u8 128), .lit (.int .u8 191)], .agg [.lit (.int .u8 160), .lit (.int .u8 191)], .agg [.lit (.int .u8 128), .lit (.int .u8 159)], .agg [.lit (.int .u8 144), .lit (.int .u8 191)], .agg [.lit (.int .u8 128), .lit (.int .u8 143)], .agg [.lit (.int .u8 0), .lit (.int .u8 0)], .agg [.lit (.int .u8 0), .lit (.int .u8 0)], .agg [.lit (.int .u8 0), .lit (.int .u8 0)], .agg [.lit (.int .u8 0), .lit (.int .u8 0)], .agg [.lit (.int .u8 0), .lit (.int .u8 0)], .agg [.lit (.int .u8 0), .lit (.int .u8 0)], .agg [.lit (.int .u8 0), .lit (.int .u8 0)], .agg [.lit (.int .u8 0), .lit (.int .u8 0)], .agg [.lit (.int .u8 0), .lit (.int .u8 0)], .agg [.lit (.int .u8 0), .lit (.int .u8 0)], .agg [.lit (.int .u8 0), .lit (.int .u8 0)]]
/-- One of Go's own tables, pinned by name: the form's constant. -/
def laid_unicode_utf8_first : DataW Unit := Go.Pinned.utf8First

/-- 'gamehalllaw2.NatChecks': WHATEVER THE INPUT: true; the input reads as it did. -/
def natChecksSpec : ChangeSpec := { name := "natChecks", fn := fun _ => fun
  | [d] => { results := [.lit (.bool true)], args := [d] }
  | _ => none }
def natChecksRow : OpenClaim := { program := "ytolikobhjmnedaadoor", sum := "f7b517d6f8be4b00a0d8adc67e0ea4f123297b2166d819aae8883d623cc362dd", func := "gamehall/gamehalllaw2.NatChecks", spec := "natChecks", inPlace := ["internal/bytealg.IndexByteString", "internal/bytealg.IndexString"], unfollowed := true, recurses := true, named := ["unicode/utf8.first", "unicode/utf8.acceptRanges", "internal/bytealg.MaxLen"], apart := false, laid := [("unicode/utf8.acceptRanges", laid_unicode_utf8_acceptRanges), ("unicode/utf8.first", laid_unicode_utf8_first)] }
def NatChecksSaid : Prop := natChecksRow.holds Tryd.pinned (OpenSpec.ofChange natChecksSpec)

/-- ITS FALSE NEIGHBOUR: 'it returns false'. Refute it at one input. -/
def natChecksWrong : ChangeSpec := { name := "natChecks", fn := fun _ => fun
  | [d] => { results := [.lit (.bool false)], args := [d] }
  | _ => none }
def NatChecksWrongFalsely : Prop := natChecksRow.holds Tryd.pinned (OpenSpec.ofChange natChecksWrong)

/-- 'gamehalllaw2.NatSums': WHATEVER THE INPUT: true; the input reads as it did. -/
def natSumsSpec : ChangeSpec := { name := "natSums", fn := fun _ => fun
  | [d1, d2] => { results := [.lit (.bool true)], args := [d1, d2] }
  | _ => none }
def natSumsRow : OpenClaim := { program := "ytolikobhjmnedaadoor", sum := "f7b517d6f8be4b00a0d8adc67e0ea4f123297b2166d819aae8883d623cc362dd", func := "gamehall/gamehalllaw2.NatSums", spec := "natSums", inPlace := ["internal/bytealg.IndexByteString", "internal/bytealg.IndexString"], unfollowed := true, recurses := true, named := ["unicode/utf8.first", "unicode/utf8.acceptRanges", "internal/bytealg.MaxLen"], apart := false, laid := [("unicode/utf8.acceptRanges", laid_unicode_utf8_acceptRanges), ("unicode/utf8.first", laid_unicode_utf8_first)] }
def NatSumsSaid : Prop := natSumsRow.holds Tryd.pinned (OpenSpec.ofChange natSumsSpec)

/-- ITS FALSE NEIGHBOUR: 'it returns false'. Refute it at one input. -/
def natSumsWrong : ChangeSpec := { name := "natSums", fn := fun _ => fun
  | [d1, d2] => { results := [.lit (.bool false)], args := [d1, d2] }
  | _ => none }
def NatSumsWrongFalsely : Prop := natSumsRow.holds Tryd.pinned (OpenSpec.ofChange natSumsWrong)

/-- 'gamehalllaw2.NatProducts': WHATEVER THE INPUT: true; the input reads as it did. -/
def natProductsSpec : ChangeSpec := { name := "natProducts", fn := fun _ => fun
  | [d1, d2] => { results := [.lit (.bool true)], args := [d1, d2] }
  | _ => none }
def natProductsRow : OpenClaim := { program := "ytolikobhjmnedaadoor", sum := "f7b517d6f8be4b00a0d8adc67e0ea4f123297b2166d819aae8883d623cc362dd", func := "gamehall/gamehalllaw2.NatProducts", spec := "natProducts", inPlace := ["internal/bytealg.IndexByteString", "internal/bytealg.IndexString"], unfollowed := true, recurses := true, named := ["unicode/utf8.first", "unicode/utf8.acceptRanges", "internal/bytealg.MaxLen"], apart := false, laid := [("unicode/utf8.acceptRanges", laid_unicode_utf8_acceptRanges), ("unicode/utf8.first", laid_unicode_utf8_first)] }
def NatProductsSaid : Prop := natProductsRow.holds Tryd.pinned (OpenSpec.ofChange natProductsSpec)

/-- ITS FALSE NEIGHBOUR: 'it returns false'. Refute it at one input. -/
def natProductsWrong : ChangeSpec := { name := "natProducts", fn := fun _ => fun
  | [d1, d2] => { results := [.lit (.bool false)], args := [d1, d2] }
  | _ => none }
def NatProductsWrongFalsely : Prop := natProductsRow.holds Tryd.pinned (OpenSpec.ofChange natProductsWrong)

/-- 'gamehalllaw2.NatCounts': WHATEVER THE INPUT: true; the input reads as it did. -/
def natCountsSpec : ChangeSpec := { name := "natCounts", fn := fun _ => fun
  | [d1, d2] => { results := [.lit (.bool true)], args := [d1, d2] }
  | _ => none }
def natCountsRow : OpenClaim := { program := "ytolikobhjmnedaadoor", sum := "f7b517d6f8be4b00a0d8adc67e0ea4f123297b2166d819aae8883d623cc362dd", func := "gamehall/gamehalllaw2.NatCounts", spec := "natCounts", inPlace := ["internal/bytealg.IndexByteString", "internal/bytealg.IndexString"], unfollowed := true, recurses := true, named := ["unicode/utf8.first", "unicode/utf8.acceptRanges", "internal/bytealg.MaxLen"], apart := false, laid := [("unicode/utf8.acceptRanges", laid_unicode_utf8_acceptRanges), ("unicode/utf8.first", laid_unicode_utf8_first)] }
def NatCountsSaid : Prop := natCountsRow.holds Tryd.pinned (OpenSpec.ofChange natCountsSpec)

/-- ITS FALSE NEIGHBOUR: 'it returns false'. Refute it at one input. -/
def natCountsWrong : ChangeSpec := { name := "natCounts", fn := fun _ => fun
  | [d1, d2] => { results := [.lit (.bool false)], args := [d1, d2] }
  | _ => none }
def NatCountsWrongFalsely : Prop := natCountsRow.holds Tryd.pinned (OpenSpec.ofChange natCountsWrong)

/-- 'gamehalllaw2.RatChecks': WHATEVER THE INPUT: true; the input reads as it did. -/
def ratChecksSpec : ChangeSpec := { name := "ratChecks", fn := fun _ => fun
  | [d1, d2] => { results := [.lit (.bool true)], args := [d1, d2] }
  | _ => none }
def ratChecksRow : OpenClaim := { program := "ytolikobhjmnedaadoor", sum := "f7b517d6f8be4b00a0d8adc67e0ea4f123297b2166d819aae8883d623cc362dd", func := "gamehall/gamehalllaw2.RatChecks", spec := "ratChecks", inPlace := ["internal/bytealg.IndexByteString", "internal/bytealg.IndexString"], unfollowed := true, recurses := true, named := ["unicode/utf8.first", "unicode/utf8.acceptRanges", "internal/bytealg.MaxLen"], apart := false, laid := [("unicode/utf8.acceptRanges", laid_unicode_utf8_acceptRanges), ("unicode/utf8.first", laid_unicode_utf8_first)] }
def RatChecksSaid : Prop := ratChecksRow.holds Tryd.pinned (OpenSpec.ofChange ratChecksSpec)

/-- ITS FALSE NEIGHBOUR: 'it returns false'. Refute it at one input. -/
def ratChecksWrong : ChangeSpec := { name := "ratChecks", fn := fun _ => fun
  | [d1, d2] => { results := [.lit (.bool false)], args := [d1, d2] }
  | _ => none }
def RatChecksWrongFalsely : Prop := ratChecksRow.holds Tryd.pinned (OpenSpec.ofChange ratChecksWrong)

/-- 'gamehalllaw2.RatOfs': WHATEVER THE INPUT: true; the input reads as it did. -/
def ratOfsSpec : ChangeSpec := { name := "ratOfs", fn := fun _ => fun
  | [d1, d2] => { results := [.lit (.bool true)], args := [d1, d2] }
  | _ => none }
def ratOfsRow : OpenClaim := { program := "ytolikobhjmnedaadoor", sum := "f7b517d6f8be4b00a0d8adc67e0ea4f123297b2166d819aae8883d623cc362dd", func := "gamehall/gamehalllaw2.RatOfs", spec := "ratOfs", inPlace := ["internal/bytealg.IndexByteString", "internal/bytealg.IndexString"], unfollowed := true, recurses := true, named := ["unicode/utf8.first", "unicode/utf8.acceptRanges", "internal/bytealg.MaxLen"], apart := false, laid := [("unicode/utf8.acceptRanges", laid_unicode_utf8_acceptRanges), ("unicode/utf8.first", laid_unicode_utf8_first)] }
def RatOfsSaid : Prop := ratOfsRow.holds Tryd.pinned (OpenSpec.ofChange ratOfsSpec)

/-- ITS FALSE NEIGHBOUR: 'it returns false'. Refute it at one input. -/
def ratOfsWrong : ChangeSpec := { name := "ratOfs", fn := fun _ => fun
  | [d1, d2] => { results := [.lit (.bool false)], args := [d1, d2] }
  | _ => none }
def RatOfsWrongFalsely : Prop := ratOfsRow.holds Tryd.pinned (OpenSpec.ofChange ratOfsWrong)

/-- 'gamehalllaw2.RatSums': WHATEVER THE INPUT: true; the input reads as it did. -/
def ratSumsSpec : ChangeSpec := { name := "ratSums", fn := fun _ => fun
  | [d1, d2] => { results := [.lit (.bool true)], args := [d1, d2] }
  | _ => none }
def ratSumsRow : OpenClaim := { program := "ytolikobhjmnedaadoor", sum := "f7b517d6f8be4b00a0d8adc67e0ea4f123297b2166d819aae8883d623cc362dd", func := "gamehall/gamehalllaw2.RatSums", spec := "ratSums", inPlace := ["internal/bytealg.IndexByteString", "internal/bytealg.IndexString"], unfollowed := true, recurses := true, named := ["unicode/utf8.first", "unicode/utf8.acceptRanges", "internal/bytealg.MaxLen"], apart := false, laid := [("unicode/utf8.acceptRanges", laid_unicode_utf8_acceptRanges), ("unicode/utf8.first", laid_unicode_utf8_first)] }
def RatSumsSaid : Prop := ratSumsRow.holds Tryd.pinned (OpenSpec.ofChange ratSumsSpec)

/-- ITS FALSE NEIGHBOUR: 'it returns false'. Refute it at one input. -/
def ratSumsWrong : ChangeSpec := { name := "ratSums", fn := fun _ => fun
  | [d1, d2] => { results := [.lit (.bool false)], args := [d1, d2] }
  | _ => none }
def RatSumsWrongFalsely : Prop := ratSumsRow.holds Tryd.pinned (OpenSpec.ofChange ratSumsWrong)

/-- 'gamehalllaw2.RatProducts': WHATEVER THE INPUT: true; the input reads as it did. -/
def ratProductsSpec : ChangeSpec := { name := "ratProducts", fn := fun _ => fun
  | [d1, d2] => { results := [.lit (.bool true)], args := [d1, d2] }
  | _ => none }
def ratProductsRow : OpenClaim := { program := "ytolikobhjmnedaadoor", sum := "f7b517d6f8be4b00a0d8adc67e0ea4f123297b2166d819aae8883d623cc362dd", func := "gamehall/gamehalllaw2.RatProducts", spec := "ratProducts", inPlace := ["internal/bytealg.IndexByteString", "internal/bytealg.IndexString"], unfollowed := true, recurses := true, named := ["unicode/utf8.first", "unicode/utf8.acceptRanges", "internal/bytealg.MaxLen"], apart := false, laid := [("unicode/utf8.acceptRanges", laid_unicode_utf8_acceptRanges), ("unicode/utf8.first", laid_unicode_utf8_first)] }
def RatProductsSaid : Prop := ratProductsRow.holds Tryd.pinned (OpenSpec.ofChange ratProductsSpec)

/-- ITS FALSE NEIGHBOUR: 'it returns false'. Refute it at one input. -/
def ratProductsWrong : ChangeSpec := { name := "ratProducts", fn := fun _ => fun
  | [d1, d2] => { results := [.lit (.bool false)], args := [d1, d2] }
  | _ => none }
def RatProductsWrongFalsely : Prop := ratProductsRow.holds Tryd.pinned (OpenSpec.ofChange ratProductsWrong)

/-- 'gamehalllaw2.RatCompares': WHATEVER THE INPUT: true; the input reads as it did. -/
def ratComparesSpec : ChangeSpec := { name := "ratCompares", fn := fun _ => fun
  | [d1, d2] => { results := [.lit (.bool true)], args := [d1, d2] }
  | _ => none }
def ratComparesRow : OpenClaim := { program := "ytolikobhjmnedaadoor", sum := "f7b517d6f8be4b00a0d8adc67e0ea4f123297b2166d819aae8883d623cc362dd", func := "gamehall/gamehalllaw2.RatCompares", spec := "ratCompares", inPlace := ["internal/bytealg.IndexByteString", "internal/bytealg.IndexString"], unfollowed := true, recurses := true, named := ["unicode/utf8.first", "unicode/utf8.acceptRanges", "internal/bytealg.MaxLen"], apart := false, laid := [("unicode/utf8.acceptRanges", laid_unicode_utf8_acceptRanges), ("unicode/utf8.first", laid_unicode_utf8_first)] }
def RatComparesSaid : Prop := ratComparesRow.holds Tryd.pinned (OpenSpec.ofChange ratComparesSpec)

/-- ITS FALSE NEIGHBOUR: 'it returns false'. Refute it at one input. -/
def ratComparesWrong : ChangeSpec := { name := "ratCompares", fn := fun _ => fun
  | [d1, d2] => { results := [.lit (.bool false)], args := [d1, d2] }
  | _ => none }
def RatComparesWrongFalsely : Prop := ratComparesRow.holds Tryd.pinned (OpenSpec.ofChange ratComparesWrong)

/- THE SECOND FORM. 'bulk': how many values and letters a reading holds, each counted each time it is reached (what is shared counts as often as it is met; a slice's spare places count too). A statement '..UptoSaid' is the law's where the arguments, and the package variables that the reading takes, are together of bulk at most 1048576: NARROWER than '..Said'. Prove '..Said' where nothing that the law and all that it calls make is longer than what came in: it says more and counts as full. Else prove '..UptoSaid'. A law counts once. -/
mutual
def uptoBulk {H : Type} : DataW H → Nat
  | .lit (.string bytes) => bytes.length + 1
  | .lit _ => 1
  | .nil => 1
  | .ptr d => uptoBulk d + 1
  | .slice elems spare => uptoBulkAll elems + uptoBulkAll spare + 1
  | .agg parts => uptoBulkAll parts + 1
  | .iface _ d => uptoBulk d + 1
  | .map entries => uptoBulkEntries entries + 1
  | .held _ => 1
def uptoBulkAll {H : Type} : List (DataW H) → Nat
  | [] => 0
  | d :: r => uptoBulk d + uptoBulkAll r
def uptoBulkEntries {H : Type} : List (Lit × DataW H) → Nat
  | [] => 0
  | x :: r => uptoBulkEntry x + uptoBulkEntries r
def uptoBulkEntry {H : Type} : Lit × DataW H → Nat
  | (.string bytes, d) => bytes.length + uptoBulk d + 1
  | (_, d) => uptoBulk d + 1
 end
def uptoSmall : (H : Type) → List (DataW H) → Bool := fun _ ds => decide (uptoBulkAll ds ≤ 1048576)
def OpenSpec.upto (s : _root_.Go.ChangeSpec) : _root_.Go.OpenSpec := { _root_.Go.OpenSpec.ofChange s with cond := some uptoSmall }

/-- 'gamehalllaw2.NatChecks', WHERE WHAT IT READS IS OF BULK AT MOST 1048576: true; the input reads as it did. -/
def natChecksUptoRow : OpenClaim := { program := "ytolikobhjmnedaadoor", sum := "f7b517d6f8be4b00a0d8adc67e0ea4f123297b2166d819aae8883d623cc362dd", func := "gamehall/gamehalllaw2.NatChecks", spec := "natChecks", inPlace := ["internal/bytealg.IndexByteString", "internal/bytealg.IndexString"], unfollowed := true, recurses := true, named := ["unicode/utf8.first", "unicode/utf8.acceptRanges", "internal/bytealg.MaxLen"], apart := false, laid := [("unicode/utf8.acceptRanges", laid_unicode_utf8_acceptRanges), ("unicode/utf8.first", laid_unicode_utf8_first)], narrowed := true }
def NatChecksUptoSaid : Prop := natChecksUptoRow.holds Tryd.pinned (OpenSpec.upto natChecksSpec)

/-- 'gamehalllaw2.NatSums', WHERE WHAT IT READS IS OF BULK AT MOST 1048576: true; the input reads as it did. -/
def natSumsUptoRow : OpenClaim := { program := "ytolikobhjmnedaadoor", sum := "f7b517d6f8be4b00a0d8adc67e0ea4f123297b2166d819aae8883d623cc362dd", func := "gamehall/gamehalllaw2.NatSums", spec := "natSums", inPlace := ["internal/bytealg.IndexByteString", "internal/bytealg.IndexString"], unfollowed := true, recurses := true, named := ["unicode/utf8.first", "unicode/utf8.acceptRanges", "internal/bytealg.MaxLen"], apart := false, laid := [("unicode/utf8.acceptRanges", laid_unicode_utf8_acceptRanges), ("unicode/utf8.first", laid_unicode_utf8_first)], narrowed := true }
def NatSumsUptoSaid : Prop := natSumsUptoRow.holds Tryd.pinned (OpenSpec.upto natSumsSpec)

/-- 'gamehalllaw2.NatProducts', WHERE WHAT IT READS IS OF BULK AT MOST 1048576: true; the input reads as it did. -/
def natProductsUptoRow : OpenClaim := { program := "ytolikobhjmnedaadoor", sum := "f7b517d6f8be4b00a0d8adc67e0ea4f123297b2166d819aae8883d623cc362dd", func := "gamehall/gamehalllaw2.NatProducts", spec := "natProducts", inPlace := ["internal/bytealg.IndexByteString", "internal/bytealg.IndexString"], unfollowed := true, recurses := true, named := ["unicode/utf8.first", "unicode/utf8.acceptRanges", "internal/bytealg.MaxLen"], apart := false, laid := [("unicode/utf8.acceptRanges", laid_unicode_utf8_acceptRanges), ("unicode/utf8.first", laid_unicode_utf8_first)], narrowed := true }
def NatProductsUptoSaid : Prop := natProductsUptoRow.holds Tryd.pinned (OpenSpec.upto natProductsSpec)

/-- 'gamehalllaw2.NatCounts', WHERE WHAT IT READS IS OF BULK AT MOST 1048576: true; the input reads as it did. -/
def natCountsUptoRow : OpenClaim := { program := "ytolikobhjmnedaadoor", sum := "f7b517d6f8be4b00a0d8adc67e0ea4f123297b2166d819aae8883d623cc362dd", func := "gamehall/gamehalllaw2.NatCounts", spec := "natCounts", inPlace := ["internal/bytealg.IndexByteString", "internal/bytealg.IndexString"], unfollowed := true, recurses := true, named := ["unicode/utf8.first", "unicode/utf8.acceptRanges", "internal/bytealg.MaxLen"], apart := false, laid := [("unicode/utf8.acceptRanges", laid_unicode_utf8_acceptRanges), ("unicode/utf8.first", laid_unicode_utf8_first)], narrowed := true }
def NatCountsUptoSaid : Prop := natCountsUptoRow.holds Tryd.pinned (OpenSpec.upto natCountsSpec)

/-- 'gamehalllaw2.RatChecks', WHERE WHAT IT READS IS OF BULK AT MOST 1048576: true; the input reads as it did. -/
def ratChecksUptoRow : OpenClaim := { program := "ytolikobhjmnedaadoor", sum := "f7b517d6f8be4b00a0d8adc67e0ea4f123297b2166d819aae8883d623cc362dd", func := "gamehall/gamehalllaw2.RatChecks", spec := "ratChecks", inPlace := ["internal/bytealg.IndexByteString", "internal/bytealg.IndexString"], unfollowed := true, recurses := true, named := ["unicode/utf8.first", "unicode/utf8.acceptRanges", "internal/bytealg.MaxLen"], apart := false, laid := [("unicode/utf8.acceptRanges", laid_unicode_utf8_acceptRanges), ("unicode/utf8.first", laid_unicode_utf8_first)], narrowed := true }
def RatChecksUptoSaid : Prop := ratChecksUptoRow.holds Tryd.pinned (OpenSpec.upto ratChecksSpec)

/-- 'gamehalllaw2.RatOfs', WHERE WHAT IT READS IS OF BULK AT MOST 1048576: true; the input reads as it did. -/
def ratOfsUptoRow : OpenClaim := { program := "ytolikobhjmnedaadoor", sum := "f7b517d6f8be4b00a0d8adc67e0ea4f123297b2166d819aae8883d623cc362dd", func := "gamehall/gamehalllaw2.RatOfs", spec := "ratOfs", inPlace := ["internal/bytealg.IndexByteString", "internal/bytealg.IndexString"], unfollowed := true, recurses := true, named := ["unicode/utf8.first", "unicode/utf8.acceptRanges", "internal/bytealg.MaxLen"], apart := false, laid := [("unicode/utf8.acceptRanges", laid_unicode_utf8_acceptRanges), ("unicode/utf8.first", laid_unicode_utf8_first)], narrowed := true }
def RatOfsUptoSaid : Prop := ratOfsUptoRow.holds Tryd.pinned (OpenSpec.upto ratOfsSpec)

/-- 'gamehalllaw2.RatSums', WHERE WHAT IT READS IS OF BULK AT MOST 1048576: true; the input reads as it did. -/
def ratSumsUptoRow : OpenClaim := { program := "ytolikobhjmnedaadoor", sum := "f7b517d6f8be4b00a0d8adc67e0ea4f123297b2166d819aae8883d623cc362dd", func := "gamehall/gamehalllaw2.RatSums", spec := "ratSums", inPlace := ["internal/bytealg.IndexByteString", "internal/bytealg.IndexString"], unfollowed := true, recurses := true, named := ["unicode/utf8.first", "unicode/utf8.acceptRanges", "internal/bytealg.MaxLen"], apart := false, laid := [("unicode/utf8.acceptRanges", laid_unicode_utf8_acceptRanges), ("unicode/utf8.first", laid_unicode_utf8_first)], narrowed := true }
def RatSumsUptoSaid : Prop := ratSumsUptoRow.holds Tryd.pinned (OpenSpec.upto ratSumsSpec)

/-- 'gamehalllaw2.RatProducts', WHERE WHAT IT READS IS OF BULK AT MOST 1048576: true; the input reads as it did. -/
def ratProductsUptoRow : OpenClaim := { program := "ytolikobhjmnedaadoor", sum := "f7b517d6f8be4b00a0d8adc67e0ea4f123297b2166d819aae8883d623cc362dd", func := "gamehall/gamehalllaw2.RatProducts", spec := "ratProducts", inPlace := ["internal/bytealg.IndexByteString", "internal/bytealg.IndexString"], unfollowed := true, recurses := true, named := ["unicode/utf8.first", "unicode/utf8.acceptRanges", "internal/bytealg.MaxLen"], apart := false, laid := [("unicode/utf8.acceptRanges", laid_unicode_utf8_acceptRanges), ("unicode/utf8.first", laid_unicode_utf8_first)], narrowed := true }
def RatProductsUptoSaid : Prop := ratProductsUptoRow.holds Tryd.pinned (OpenSpec.upto ratProductsSpec)

/-- 'gamehalllaw2.RatCompares', WHERE WHAT IT READS IS OF BULK AT MOST 1048576: true; the input reads as it did. -/
def ratComparesUptoRow : OpenClaim := { program := "ytolikobhjmnedaadoor", sum := "f7b517d6f8be4b00a0d8adc67e0ea4f123297b2166d819aae8883d623cc362dd", func := "gamehall/gamehalllaw2.RatCompares", spec := "ratCompares", inPlace := ["internal/bytealg.IndexByteString", "internal/bytealg.IndexString"], unfollowed := true, recurses := true, named := ["unicode/utf8.first", "unicode/utf8.acceptRanges", "internal/bytealg.MaxLen"], apart := false, laid := [("unicode/utf8.acceptRanges", laid_unicode_utf8_acceptRanges), ("unicode/utf8.first", laid_unicode_utf8_first)], narrowed := true }
def RatComparesUptoSaid : Prop := ratComparesUptoRow.holds Tryd.pinned (OpenSpec.upto ratComparesSpec)

end Rows
end Go.Proofs.YtolikobhjmnedaaDoor
