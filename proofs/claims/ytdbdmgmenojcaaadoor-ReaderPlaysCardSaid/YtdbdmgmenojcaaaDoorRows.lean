/-
  NARROWER THAN 'FOR EVERY INPUT', by the rows' own cells (each row's printed sentence says how): ReaderNone: laid · ReaderPlays: laid · ReaderWhole: laid · ReaderParagraphs: laid · ReaderNumbers: laid.
  DERIVED. THE GIVEN ROWS OF THIS SEAT. 5 by the template 'for every input the law returns true; each argument reads behind the call as it read before'; 0 by the template 'total and deterministic' (their statements: YtdbdmgmenojcaaaDoorTotals.lean).
  GIVEN WITH THE SEED: the statements are not yours to turn. If you find one false, say at which input.
  Laid BY PROGRAM, IN A SANDBOX (cutbox-rows.mjs): the forced cells as the released guide's own fill.sh prints them over the translation 52fe1c9bd32fecf1… (all of the seat's roots in one cut). By AI agents, Wed Nov 11 2026. No macro, syntax, notation, axiom, sorry.
-/
import Derived.Test.YtdbdmgmenojcaaaDoorChecked
import GoSem.PinnedTables
import GoSem.Claim
import GoSem.ClaimJoined
import GoSem.ClaimMapViews
import Derived.JoinedTies
import Derived.KernelRfl
namespace Go.Proofs.YtdbdmgmenojcaaaDoor
/- THE CELL 'sum', in the pinned program and in every row, IS THE sha256 OF THE DUMP (.gsa) THAT YtdbdmgmenojcaaaDoorProg.lean LOADS. Nothing in Lean hashes anything: it is a label: what it is worth is what the hold of that sum in a sandbox is worth. -/
noncomputable def Tryd.pinned : Pinned := { name := "ytdbdmgmenojcaaadoor", sum := "52fe1c9bd32fecf17741c4331c18747024704e722968e4bb1a13f95392914ac4", checked := Tryd.checked }
namespace Rows
def none {H : Type} : Left H := { results := [], args := [] }

/- WHAT THE LISTED PACKAGE-LEVEL VARIABLES READ AS WHEN THE CALL BEGINS. Each datum BY PROGRAM (the guide's laid-datum.mjs) off the statement by which the dump's own 'gosem.cut.vars' lays the variable. In a bare row this is a premise. The card (YtdbdmgmenojcaaaDoorCards.lean) ties it to the program's text. -/
def laid_unicode_utf8_acceptRanges {H : Type} : DataW H := .agg [.agg [.lit (.int .u8 128), .lit (.int .u8 191)], .agg [.lit (.int .u8 160), .lit (.int .u8 191)], .agg [.lit (.int .u8 128), .lit (.int .u8 159)], .agg [.lit (.int .u8 144), .lit (.int .u8 191)], .agg [.lit (.int .u8 128), .lit (.int .u8 143)], .agg [.lit (.int .u8 0), .lit (.int .u8 0)], .agg [.lit (.int .u8 0), .lit (.int .u8 0)], .agg [.lit (.int .u8 0), .lit (.int .u8 0)], .agg [.lit (.int .u8 0), .lit (.int .u8 0)], .agg [.lit (.int .u8 0), .lit (.int .u8 0)], .agg [.lit (.int .u8 0), .lit (.int .u8 0)], .agg [.lit (.int .u8 0), .lit (.int .u8 0)], .agg [.lit (.int .u8 0), .lit (.int .u8 0)], .agg [.lit (.int .u8 0), .lit (.int .u8 0)], .agg [.lit (.int .u8 0), .lit (.int .u8 0)], .agg [.lit (.int .u8 0), .lit (.int .u8 0)]]
/-- One of Go's own tables, pinned by name: the form's constant. -/
def laid_unicode_utf8_first : DataW Unit := Go.Pinned.utf8First

/-- 'winnowerlaw10.ReaderNone': WHATEVER THE INPUT: true; the input reads as it did. -/
def readerNoneSpec : ChangeSpec := { name := "readerNone", fn := fun _ => fun
  | [d] => { results := [.lit (.bool true)], args := [d] }
  | _ => none }
def readerNoneRow : OpenClaim := { program := "ytdbdmgmenojcaaadoor", sum := "52fe1c9bd32fecf17741c4331c18747024704e722968e4bb1a13f95392914ac4", func := "winnower/winnowerlaw10.ReaderNone", spec := "readerNone", inPlace := ["internal/bytealg.IndexByteString", "internal/bytealg.IndexString"], unfollowed := true, recurses := true, named := ["unicode/utf8.first", "unicode/utf8.acceptRanges", "internal/bytealg.MaxLen"], apart := false, laid := [("unicode/utf8.acceptRanges", laid_unicode_utf8_acceptRanges), ("unicode/utf8.first", laid_unicode_utf8_first)] }
def ReaderNoneSaid : Prop := readerNoneRow.holds Tryd.pinned (OpenSpec.ofChange readerNoneSpec)

/-- ITS FALSE NEIGHBOUR: 'it returns false'. Refute it at one input. -/
def readerNoneWrong : ChangeSpec := { name := "readerNone", fn := fun _ => fun
  | [d] => { results := [.lit (.bool false)], args := [d] }
  | _ => none }
def ReaderNoneWrongFalsely : Prop := readerNoneRow.holds Tryd.pinned (OpenSpec.ofChange readerNoneWrong)

/-- 'winnowerlaw10.ReaderPlays': WHATEVER THE INPUT: true; the input reads as it did. -/
def readerPlaysSpec : ChangeSpec := { name := "readerPlays", fn := fun _ => fun
  | [d1, d2] => { results := [.lit (.bool true)], args := [d1, d2] }
  | _ => none }
def readerPlaysRow : OpenClaim := { program := "ytdbdmgmenojcaaadoor", sum := "52fe1c9bd32fecf17741c4331c18747024704e722968e4bb1a13f95392914ac4", func := "winnower/winnowerlaw10.ReaderPlays", spec := "readerPlays", inPlace := ["internal/bytealg.IndexByteString", "internal/bytealg.IndexString"], unfollowed := true, recurses := true, named := ["unicode/utf8.first", "unicode/utf8.acceptRanges", "internal/bytealg.MaxLen"], apart := false, laid := [("unicode/utf8.acceptRanges", laid_unicode_utf8_acceptRanges), ("unicode/utf8.first", laid_unicode_utf8_first)] }
def ReaderPlaysSaid : Prop := readerPlaysRow.holds Tryd.pinned (OpenSpec.ofChange readerPlaysSpec)

/-- ITS FALSE NEIGHBOUR: 'it returns false'. Refute it at one input. -/
def readerPlaysWrong : ChangeSpec := { name := "readerPlays", fn := fun _ => fun
  | [d1, d2] => { results := [.lit (.bool false)], args := [d1, d2] }
  | _ => none }
def ReaderPlaysWrongFalsely : Prop := readerPlaysRow.holds Tryd.pinned (OpenSpec.ofChange readerPlaysWrong)

/-- 'winnowerlaw10.ReaderWhole': WHATEVER THE INPUT: true; the input reads as it did. -/
def readerWholeSpec : ChangeSpec := { name := "readerWhole", fn := fun _ => fun
  | [d1, d2] => { results := [.lit (.bool true)], args := [d1, d2] }
  | _ => none }
def readerWholeRow : OpenClaim := { program := "ytdbdmgmenojcaaadoor", sum := "52fe1c9bd32fecf17741c4331c18747024704e722968e4bb1a13f95392914ac4", func := "winnower/winnowerlaw10.ReaderWhole", spec := "readerWhole", inPlace := ["internal/bytealg.IndexByteString", "internal/bytealg.IndexString", "internal/abi.NoEscape", "internal/bytealg.MakeNoZero"], unfollowed := true, recurses := true, named := ["unicode/utf8.first", "unicode/utf8.acceptRanges", "internal/bytealg.MaxLen"], apart := false, laid := [("unicode/utf8.acceptRanges", laid_unicode_utf8_acceptRanges), ("unicode/utf8.first", laid_unicode_utf8_first)] }
def ReaderWholeSaid : Prop := readerWholeRow.holds Tryd.pinned (OpenSpec.ofChange readerWholeSpec)

/-- ITS FALSE NEIGHBOUR: 'it returns false'. Refute it at one input. -/
def readerWholeWrong : ChangeSpec := { name := "readerWhole", fn := fun _ => fun
  | [d1, d2] => { results := [.lit (.bool false)], args := [d1, d2] }
  | _ => none }
def ReaderWholeWrongFalsely : Prop := readerWholeRow.holds Tryd.pinned (OpenSpec.ofChange readerWholeWrong)

/-- 'winnowerlaw10.ReaderParagraphs': WHATEVER THE INPUT: true; the input reads as it did. -/
def readerParagraphsSpec : ChangeSpec := { name := "readerParagraphs", fn := fun _ => fun
  | [d1, d2] => { results := [.lit (.bool true)], args := [d1, d2] }
  | _ => none }
def readerParagraphsRow : OpenClaim := { program := "ytdbdmgmenojcaaadoor", sum := "52fe1c9bd32fecf17741c4331c18747024704e722968e4bb1a13f95392914ac4", func := "winnower/winnowerlaw10.ReaderParagraphs", spec := "readerParagraphs", inPlace := ["internal/bytealg.IndexByteString", "internal/bytealg.IndexString", "internal/bytealg.CountString", "internal/abi.NoEscape", "internal/bytealg.MakeNoZero"], unfollowed := true, recurses := true, named := ["unicode/utf8.first", "unicode/utf8.acceptRanges", "internal/bytealg.MaxLen"], apart := false, laid := [("unicode/utf8.acceptRanges", laid_unicode_utf8_acceptRanges), ("unicode/utf8.first", laid_unicode_utf8_first)] }
def ReaderParagraphsSaid : Prop := readerParagraphsRow.holds Tryd.pinned (OpenSpec.ofChange readerParagraphsSpec)

/-- ITS FALSE NEIGHBOUR: 'it returns false'. Refute it at one input. -/
def readerParagraphsWrong : ChangeSpec := { name := "readerParagraphs", fn := fun _ => fun
  | [d1, d2] => { results := [.lit (.bool false)], args := [d1, d2] }
  | _ => none }
def ReaderParagraphsWrongFalsely : Prop := readerParagraphsRow.holds Tryd.pinned (OpenSpec.ofChange readerParagraphsWrong)

/-- 'winnowerlaw10.ReaderNumbers': WHATEVER THE INPUT: true; the input reads as it did. -/
def readerNumbersSpec : ChangeSpec := { name := "readerNumbers", fn := fun _ => fun
  | [] => { results := [.lit (.bool true)], args := [] }
  | _ => none }
def readerNumbersRow : OpenClaim := { program := "ytdbdmgmenojcaaadoor", sum := "52fe1c9bd32fecf17741c4331c18747024704e722968e4bb1a13f95392914ac4", func := "winnower/winnowerlaw10.ReaderNumbers", spec := "readerNumbers", inPlace := ["internal/abi.NoEscape", "internal/bytealg.MakeNoZero", "internal/bytealg.IndexByteString", "internal/bytealg.IndexString"], unfollowed := true, recurses := true, named := ["unicode/utf8.first", "unicode/utf8.acceptRanges", "internal/bytealg.MaxLen"], apart := false, laid := [("unicode/utf8.acceptRanges", laid_unicode_utf8_acceptRanges), ("unicode/utf8.first", laid_unicode_utf8_first)] }
def ReaderNumbersSaid : Prop := readerNumbersRow.holds Tryd.pinned (OpenSpec.ofChange readerNumbersSpec)

/-- ITS FALSE NEIGHBOUR: 'it returns false'. Refute it at one input. -/
def readerNumbersWrong : ChangeSpec := { name := "readerNumbers", fn := fun _ => fun
  | [] => { results := [.lit (.bool false)], args := [] }
  | _ => none }
def ReaderNumbersWrongFalsely : Prop := readerNumbersRow.holds Tryd.pinned (OpenSpec.ofChange readerNumbersWrong)

/- THE SECOND FORM. 'bulk': how many values and letters a reading holds, each counted each time it is reached (what is shared counts as often as it is met; a slice's spare places count too). A statement '..UptoSaid' is the law's where the arguments, and the package variables that the reading takes, are together of bulk at most 1048576: NARROWER than '..Said'. Prove '..Said' where nothing that the law and all that it calls make is longer than what came in: it says more and counts as full. Else prove '..UptoSaid'. A law counts once. -/
mutual
def uptoBulk {H : Type} : DataW H → Nat
  | .lit (.string bytes) => bytes.length + 1
  | .lit _ => 1
  | .nil => 1
  | .ptr d => uptoBulk d + 1
  | .slice elems spare => uptoBulkAll elems + uptoBulkAll spare + 1
  | .agg parts => uptoBulkAll parts + 1
  | .iface _ d => uptoBulk d + 1
  | .map entries => uptoBulkEntries entries + 1
  | .held _ => 1
def uptoBulkAll {H : Type} : List (DataW H) → Nat
  | [] => 0
  | d :: r => uptoBulk d + uptoBulkAll r
def uptoBulkEntries {H : Type} : List (Lit × DataW H) → Nat
  | [] => 0
  | x :: r => uptoBulkEntry x + uptoBulkEntries r
def uptoBulkEntry {H : Type} : Lit × DataW H → Nat
  | (.string bytes, d) => bytes.length + uptoBulk d + 1
  | (_, d) => uptoBulk d + 1
 end
def uptoSmall : (H : Type) → List (DataW H) → Bool := fun _ ds => decide (uptoBulkAll ds ≤ 1048576)
def OpenSpec.upto (s : _root_.Go.ChangeSpec) : _root_.Go.OpenSpec := { _root_.Go.OpenSpec.ofChange s with cond := some uptoSmall }

/-- 'winnowerlaw10.ReaderNone', WHERE WHAT IT READS IS OF BULK AT MOST 1048576: true; the input reads as it did. -/
def readerNoneUptoRow : OpenClaim := { program := "ytdbdmgmenojcaaadoor", sum := "52fe1c9bd32fecf17741c4331c18747024704e722968e4bb1a13f95392914ac4", func := "winnower/winnowerlaw10.ReaderNone", spec := "readerNone", inPlace := ["internal/bytealg.IndexByteString", "internal/bytealg.IndexString"], unfollowed := true, recurses := true, named := ["unicode/utf8.first", "unicode/utf8.acceptRanges", "internal/bytealg.MaxLen"], apart := false, laid := [("unicode/utf8.acceptRanges", laid_unicode_utf8_acceptRanges), ("unicode/utf8.first", laid_unicode_utf8_first)], narrowed := true }
def ReaderNoneUptoSaid : Prop := readerNoneUptoRow.holds Tryd.pinned (OpenSpec.upto readerNoneSpec)

/-- 'winnowerlaw10.ReaderPlays', WHERE WHAT IT READS IS OF BULK AT MOST 1048576: true; the input reads as it did. -/
def readerPlaysUptoRow : OpenClaim := { program := "ytdbdmgmenojcaaadoor", sum := "52fe1c9bd32fecf17741c4331c18747024704e722968e4bb1a13f95392914ac4", func := "winnower/winnowerlaw10.ReaderPlays", spec := "readerPlays", inPlace := ["internal/bytealg.IndexByteString", "internal/bytealg.IndexString"], unfollowed := true, recurses := true, named := ["unicode/utf8.first", "unicode/utf8.acceptRanges", "internal/bytealg.MaxLen"], apart := false, laid := [("unicode/utf8.acceptRanges", laid_unicode_utf8_acceptRanges), ("unicode/utf8.first", laid_unicode_utf8_first)], narrowed := true }
def ReaderPlaysUptoSaid : Prop := readerPlaysUptoRow.holds Tryd.pinned (OpenSpec.upto readerPlaysSpec)

/-- 'winnowerlaw10.ReaderWhole', WHERE WHAT IT READS IS OF BULK AT MOST 1048576: true; the input reads as it did. -/
def readerWholeUptoRow : OpenClaim := { program := "ytdbdmgmenojcaaadoor", sum := "52fe1c9bd32fecf17741c4331c18747024704e722968e4bb1a13f95392914ac4", func := "winnower/winnowerlaw10.ReaderWhole", spec := "readerWhole", inPlace := ["internal/bytealg.IndexByteString", "internal/bytealg.IndexString", "internal/abi.NoEscape", "internal/bytealg.MakeNoZero"], unfollowed := true, recurses := true, named := ["unicode/utf8.first", "unicode/utf8.acceptRanges", "internal/bytealg.MaxLen"], apart := false, laid := [("unicode/utf8.acceptRanges", laid_unicode_utf8_acceptRanges), ("unicode/utf8.first", laid_unicode_utf8_first)], narrowed := true }
def ReaderWholeUptoSaid : Prop := readerWholeUptoRow.holds Tryd.pinned (OpenSpec.upto readerWholeSpec)

/-- 'winnowerlaw10.ReaderParagraphs', WHERE WHAT IT READS IS OF BULK AT MOST 1048576: true; the input reads as it did. -/
def readerParagraphsUptoRow : OpenClaim := { program := "ytdbdmgmenojcaaadoor", sum := "52fe1c9bd32fecf17741c4331c18747024704e722968e4bb1a13f95392914ac4", func := "winnower/winnowerlaw10.ReaderParagraphs", spec := "readerParagraphs", inPlace := ["internal/bytealg.IndexByteString", "internal/bytealg.IndexString", "internal/bytealg.CountString", "internal/abi.NoEscape", "internal/bytealg.MakeNoZero"], unfollowed := true, recurses := true, named := ["unicode/utf8.first", "unicode/utf8.acceptRanges", "internal/bytealg.MaxLen"], apart := false, laid := [("unicode/utf8.acceptRanges", laid_unicode_utf8_acceptRanges), ("unicode/utf8.first", laid_unicode_utf8_first)], narrowed := true }
def ReaderParagraphsUptoSaid : Prop := readerParagraphsUptoRow.holds Tryd.pinned (OpenSpec.upto readerParagraphsSpec)

/-- 'winnowerlaw10.ReaderNumbers', WHERE WHAT IT READS IS OF BULK AT MOST 1048576: true; the input reads as it did. -/
def readerNumbersUptoRow : OpenClaim := { program := "ytdbdmgmenojcaaadoor", sum := "52fe1c9bd32fecf17741c4331c18747024704e722968e4bb1a13f95392914ac4", func := "winnower/winnowerlaw10.ReaderNumbers", spec := "readerNumbers", inPlace := ["internal/abi.NoEscape", "internal/bytealg.MakeNoZero", "internal/bytealg.IndexByteString", "internal/bytealg.IndexString"], unfollowed := true, recurses := true, named := ["unicode/utf8.first", "unicode/utf8.acceptRanges", "internal/bytealg.MaxLen"], apart := false, laid := [("unicode/utf8.acceptRanges", laid_unicode_utf8_acceptRanges), ("unicode/utf8.first", laid_unicode_utf8_first)], narrowed := true }
def ReaderNumbersUptoSaid : Prop := readerNumbersUptoRow.holds Tryd.pinned (OpenSpec.upto readerNumbersSpec)

end Rows
end Go.Proofs.YtdbdmgmenojcaaaDoor
