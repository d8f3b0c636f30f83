/-
  DERIVED. GIVEN WITH THE SEED: THE CARDS: each row of YtdbdmgmenojcaaaDoorRows.lean that lists a variable, with what it lists TIED to the program's text (the seventh form; the later family's looks); each row that meets fmt, with fmt's text TOLD by the authors' own Lean function (tested against real Go, not proved from fmt's source: count such statements apart). THE CARD IS WHAT COUNTS. Prove the row's statement (the work); the ties are given (YtdbdmgmenojcaaaDoorTie.lean); close each card by the builder's one call (the guide's Derived/Test/ToyasCard.lean, 'card_holds'). Laid BY PROGRAM, IN A SANDBOX (cutbox-door.mjs). By AI agents, Wed Nov 11 2026. No macro, syntax, notation, axiom, sorry.
-/
import Derived.Test.YtdbdmgmenojcaaaDoorRows
import GoSem.ClaimSeven
namespace Go.Proofs.YtdbdmgmenojcaaaDoor
namespace Rows

/-- THE TIED CARD OF 'winnowerlaw10.ReaderNone'. -/
def readerNoneCard : Claim7 := { stood := { row := readerNoneRow, standIns := [], harness := (true, "bbbf1615c3de95d9913dc35dd73d881af16922b8f6cd1f947baf9bfa18c0612b"), looks := false }, kinds := [], alts := [], laidByText := true, laidKinds := [.data, .pinned], laidTests := true, laidLooks := .later }
def ReaderNoneCardSaid : Prop := Claim7.holds Tryd.pinned (.plain (OpenSpec.ofChange readerNoneSpec)) readerNoneCard

/-- THE TIED CARD OF 'winnowerlaw10.ReaderPlays'. -/
def readerPlaysCard : Claim7 := { stood := { row := readerPlaysRow, standIns := [], harness := (true, "bbbf1615c3de95d9913dc35dd73d881af16922b8f6cd1f947baf9bfa18c0612b"), looks := false }, kinds := [], alts := [], laidByText := true, laidKinds := [.data, .pinned], laidTests := true, laidLooks := .later }
def ReaderPlaysCardSaid : Prop := Claim7.holds Tryd.pinned (.plain (OpenSpec.ofChange readerPlaysSpec)) readerPlaysCard

/-- THE TIED CARD OF 'winnowerlaw10.ReaderWhole'. -/
def readerWholeCard : Claim7 := { stood := { row := readerWholeRow, standIns := [], harness := (true, "bbbf1615c3de95d9913dc35dd73d881af16922b8f6cd1f947baf9bfa18c0612b"), looks := false }, kinds := [], alts := [], laidByText := true, laidKinds := [.data, .pinned], laidTests := true, laidLooks := .later }
def ReaderWholeCardSaid : Prop := Claim7.holds Tryd.pinned (.plain (OpenSpec.ofChange readerWholeSpec)) readerWholeCard

/-- THE TIED CARD OF 'winnowerlaw10.ReaderParagraphs'. -/
def readerParagraphsCard : Claim7 := { stood := { row := readerParagraphsRow, standIns := [], harness := (true, "bbbf1615c3de95d9913dc35dd73d881af16922b8f6cd1f947baf9bfa18c0612b"), looks := false }, kinds := [], alts := [], laidByText := true, laidKinds := [.data, .pinned], laidTests := true, laidLooks := .later }
def ReaderParagraphsCardSaid : Prop := Claim7.holds Tryd.pinned (.plain (OpenSpec.ofChange readerParagraphsSpec)) readerParagraphsCard

/-- THE TIED CARD OF 'winnowerlaw10.ReaderNumbers'. -/
def readerNumbersCard : Claim7 := { stood := { row := readerNumbersRow, standIns := [], harness := (true, "bbbf1615c3de95d9913dc35dd73d881af16922b8f6cd1f947baf9bfa18c0612b"), looks := false }, kinds := [], alts := [], laidByText := true, laidKinds := [.data, .pinned], laidTests := true, laidLooks := .later }
def ReaderNumbersCardSaid : Prop := Claim7.holds Tryd.pinned (.plain (OpenSpec.ofChange readerNumbersSpec)) readerNumbersCard

/-- THE SECOND FORM's CARD OF 'winnowerlaw10.ReaderNone'. -/
def readerNoneUptoCard : Claim7 := { stood := { row := readerNoneUptoRow, standIns := [], harness := (true, "bbbf1615c3de95d9913dc35dd73d881af16922b8f6cd1f947baf9bfa18c0612b"), looks := false }, kinds := [], alts := [], laidByText := true, laidKinds := [.data, .pinned], laidTests := true, laidLooks := .later }
def ReaderNoneUptoCardSaid : Prop := Claim7.holds Tryd.pinned (.plain (OpenSpec.upto readerNoneSpec)) readerNoneUptoCard

/-- THE SECOND FORM's CARD OF 'winnowerlaw10.ReaderPlays'. -/
def readerPlaysUptoCard : Claim7 := { stood := { row := readerPlaysUptoRow, standIns := [], harness := (true, "bbbf1615c3de95d9913dc35dd73d881af16922b8f6cd1f947baf9bfa18c0612b"), looks := false }, kinds := [], alts := [], laidByText := true, laidKinds := [.data, .pinned], laidTests := true, laidLooks := .later }
def ReaderPlaysUptoCardSaid : Prop := Claim7.holds Tryd.pinned (.plain (OpenSpec.upto readerPlaysSpec)) readerPlaysUptoCard

/-- THE SECOND FORM's CARD OF 'winnowerlaw10.ReaderWhole'. -/
def readerWholeUptoCard : Claim7 := { stood := { row := readerWholeUptoRow, standIns := [], harness := (true, "bbbf1615c3de95d9913dc35dd73d881af16922b8f6cd1f947baf9bfa18c0612b"), looks := false }, kinds := [], alts := [], laidByText := true, laidKinds := [.data, .pinned], laidTests := true, laidLooks := .later }
def ReaderWholeUptoCardSaid : Prop := Claim7.holds Tryd.pinned (.plain (OpenSpec.upto readerWholeSpec)) readerWholeUptoCard

/-- THE SECOND FORM's CARD OF 'winnowerlaw10.ReaderParagraphs'. -/
def readerParagraphsUptoCard : Claim7 := { stood := { row := readerParagraphsUptoRow, standIns := [], harness := (true, "bbbf1615c3de95d9913dc35dd73d881af16922b8f6cd1f947baf9bfa18c0612b"), looks := false }, kinds := [], alts := [], laidByText := true, laidKinds := [.data, .pinned], laidTests := true, laidLooks := .later }
def ReaderParagraphsUptoCardSaid : Prop := Claim7.holds Tryd.pinned (.plain (OpenSpec.upto readerParagraphsSpec)) readerParagraphsUptoCard

/-- THE SECOND FORM's CARD OF 'winnowerlaw10.ReaderNumbers'. -/
def readerNumbersUptoCard : Claim7 := { stood := { row := readerNumbersUptoRow, standIns := [], harness := (true, "bbbf1615c3de95d9913dc35dd73d881af16922b8f6cd1f947baf9bfa18c0612b"), looks := false }, kinds := [], alts := [], laidByText := true, laidKinds := [.data, .pinned], laidTests := true, laidLooks := .later }
def ReaderNumbersUptoCardSaid : Prop := Claim7.holds Tryd.pinned (.plain (OpenSpec.upto readerNumbersSpec)) readerNumbersUptoCard
end Rows
end Go.Proofs.YtdbdmgmenojcaaaDoor
