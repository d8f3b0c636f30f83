/-
  DERIVED. GIVEN WITH THE SEED: THE CARDS: each row of YtankpckkiikmaaaDoorRows.lean that lists a variable, with what it lists TIED to the program's text (the seventh form; the later family's looks); each row that meets fmt, with fmt's text TOLD by the authors' own Lean function (tested against real Go, not proved from fmt's source: count such statements apart). THE CARD IS WHAT COUNTS. Prove the row's statement (the work); the ties are given (YtankpckkiikmaaaDoorTie.lean); close each card by the builder's one call (the guide's Derived/Test/ToyasCard.lean, 'card_holds'). Laid BY PROGRAM, IN A SANDBOX (cutbox-door.mjs). By AI agents, Wed Nov 11 2026. No macro, syntax, notation, axiom, sorry.
-/
import Derived.Test.YtankpckkiikmaaaDoorRows
import GoSem.ClaimSeven
namespace Go.Proofs.YtankpckkiikmaaaDoor
namespace Rows

/-- THE TIED CARD OF 'winnowerlaw19.CodeShown'. -/
def codeShownCard : Claim7 := { stood := { row := codeShownRow, standIns := [], harness := (true, "3d1dc0f26536e4f20f77280f5946a9a26664e2c6dc5b797e975e2ac7c9dd6c97"), looks := false }, kinds := [], alts := [], laidByText := true, laidKinds := [.data, .data, .data], laidTests := true, laidLooks := .later }
def CodeShownCardSaid : Prop := Claim7.holds Tryd.pinned (.plain (OpenSpec.ofChange codeShownSpec)) codeShownCard

/-- THE TIED CARD OF 'winnowerlaw19.CodeTells'. -/
def codeTellsCard : Claim7 := { stood := { row := codeTellsRow, standIns := [], harness := (true, "3d1dc0f26536e4f20f77280f5946a9a26664e2c6dc5b797e975e2ac7c9dd6c97"), looks := false }, kinds := [], alts := [], laidByText := true, laidKinds := [.data, .data, .data], laidTests := true, laidLooks := .later }
def CodeTellsCardSaid : Prop := Claim7.holds Tryd.pinned (.plain (OpenSpec.ofChange codeTellsSpec)) codeTellsCard

/-- THE SECOND FORM's CARD OF 'winnowerlaw19.CodeShown'. -/
def codeShownUptoCard : Claim7 := { stood := { row := codeShownUptoRow, standIns := [], harness := (true, "3d1dc0f26536e4f20f77280f5946a9a26664e2c6dc5b797e975e2ac7c9dd6c97"), looks := false }, kinds := [], alts := [], laidByText := true, laidKinds := [.data, .data, .data], laidTests := true, laidLooks := .later }
def CodeShownUptoCardSaid : Prop := Claim7.holds Tryd.pinned (.plain (OpenSpec.upto codeShownSpec)) codeShownUptoCard

/-- THE SECOND FORM's CARD OF 'winnowerlaw19.CodeTells'. -/
def codeTellsUptoCard : Claim7 := { stood := { row := codeTellsUptoRow, standIns := [], harness := (true, "3d1dc0f26536e4f20f77280f5946a9a26664e2c6dc5b797e975e2ac7c9dd6c97"), looks := false }, kinds := [], alts := [], laidByText := true, laidKinds := [.data, .data, .data], laidTests := true, laidLooks := .later }
def CodeTellsUptoCardSaid : Prop := Claim7.holds Tryd.pinned (.plain (OpenSpec.upto codeTellsSpec)) codeTellsUptoCard
end Rows
end Go.Proofs.YtankpckkiikmaaaDoor
