/-
  DERIVED. GIVEN WITH THE SEED: THE CARDS: each row of YtmapjahpjolmnaaGreatDoorRows.lean that lists a variable, with what it lists TIED to the program's text (the seventh form; the later family's looks); each row that meets fmt, with fmt's text TOLD by the authors' own Lean function (tested against real Go, not proved from fmt's source: count such statements apart). THE CARD IS WHAT COUNTS. Prove the row's statement (the work); the ties are given (YtmapjahpjolmnaaGreatDoorTie.lean); close each card by the builder's one call (the guide's Derived/Test/ToyasCard.lean, 'card_holds'). Laid BY PROGRAM, IN A SANDBOX (cutbox-door.mjs). By AI agents, Wed Nov 11 2026. No macro, syntax, notation, axiom, sorry.
-/
import Derived.Test.YtmapjahpjolmnaaGreatDoorRows
import GoSem.ClaimSeven
namespace Go.Proofs.YtmapjahpjolmnaaGreatDoor
namespace Rows

/-- THE TIED CARD OF 'winnowerlaw13.NodesTell'. -/
def nodesTellCard : Claim7 := { stood := { row := nodesTellRow, standIns := [], harness := (true, "8d94720aeeff9a36df4760b2b1d62d075cf42bedbf0a0858779a55301640e545"), looks := false }, kinds := [], alts := [], laidByText := true, laidKinds := [.listed, .data], laidTests := true, laidLooks := .later }
def NodesTellCardSaid : Prop := Claim7.holds Tryz.pinned (.plain (OpenSpec.ofChange nodesTellSpec)) nodesTellCard

/-- THE SECOND FORM's CARD OF 'winnowerlaw13.NodesTell'. -/
def nodesTellUptoCard : Claim7 := { stood := { row := nodesTellUptoRow, standIns := [], harness := (true, "8d94720aeeff9a36df4760b2b1d62d075cf42bedbf0a0858779a55301640e545"), looks := false }, kinds := [], alts := [], laidByText := true, laidKinds := [.listed, .data], laidTests := true, laidLooks := .later }
def NodesTellUptoCardSaid : Prop := Claim7.holds Tryz.pinned (.plain (OpenSpec.upto nodesTellSpec)) nodesTellUptoCard
end Rows
end Go.Proofs.YtmapjahpjolmnaaGreatDoor
