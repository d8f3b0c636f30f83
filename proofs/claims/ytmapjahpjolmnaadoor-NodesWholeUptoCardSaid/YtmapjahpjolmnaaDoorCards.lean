/-
  DERIVED. GIVEN WITH THE SEED: THE CARDS: each row of YtmapjahpjolmnaaDoorRows.lean that lists a variable, with what it lists TIED to the program's text (the seventh form; the later family's looks); each row that meets fmt, with fmt's text TOLD by the authors' own Lean function (tested against real Go, not proved from fmt's source: count such statements apart). THE CARD IS WHAT COUNTS. Prove the row's statement (the work); the ties are given (YtmapjahpjolmnaaDoorTie.lean); close each card by the builder's one call (the guide's Derived/Test/ToyasCard.lean, 'card_holds'). Laid BY PROGRAM, IN A SANDBOX (cutbox-door.mjs). By AI agents, Wed Nov 11 2026. No macro, syntax, notation, axiom, sorry.
-/
import Derived.Test.YtmapjahpjolmnaaDoorRows
import GoSem.ClaimSeven
namespace Go.Proofs.YtmapjahpjolmnaaDoor
namespace Rows

/-- THE TIED CARD OF 'winnowerlaw13.NodesDeep'. -/
def nodesDeepCard : Claim7 := { stood := { row := nodesDeepRow, standIns := [], harness := (true, "3d3fd73bc0cc0d48ca7c7e8a9169595c11ce6106a7542a5fa8d3921c55970077"), looks := false }, kinds := [], alts := [], laidByText := true, laidKinds := [.listed, .data], laidTests := true, laidLooks := .later }
def NodesDeepCardSaid : Prop := Claim7.holds Tryd.pinned (.plain (OpenSpec.ofChange nodesDeepSpec)) nodesDeepCard

/-- THE TIED CARD OF 'winnowerlaw13.NodesWhole'. -/
def nodesWholeCard : Claim7 := { stood := { row := nodesWholeRow, standIns := [], harness := (true, "3d3fd73bc0cc0d48ca7c7e8a9169595c11ce6106a7542a5fa8d3921c55970077"), looks := false }, kinds := [], alts := [], laidByText := true, laidKinds := [.listed, .data], laidTests := true, laidLooks := .later }
def NodesWholeCardSaid : Prop := Claim7.holds Tryd.pinned (.plain (OpenSpec.ofChange nodesWholeSpec)) nodesWholeCard

/-- THE SECOND FORM's CARD OF 'winnowerlaw13.NodesDeep'. -/
def nodesDeepUptoCard : Claim7 := { stood := { row := nodesDeepUptoRow, standIns := [], harness := (true, "3d3fd73bc0cc0d48ca7c7e8a9169595c11ce6106a7542a5fa8d3921c55970077"), looks := false }, kinds := [], alts := [], laidByText := true, laidKinds := [.listed, .data], laidTests := true, laidLooks := .later }
def NodesDeepUptoCardSaid : Prop := Claim7.holds Tryd.pinned (.plain (OpenSpec.upto nodesDeepSpec)) nodesDeepUptoCard

/-- THE SECOND FORM's CARD OF 'winnowerlaw13.NodesWhole'. -/
def nodesWholeUptoCard : Claim7 := { stood := { row := nodesWholeUptoRow, standIns := [], harness := (true, "3d3fd73bc0cc0d48ca7c7e8a9169595c11ce6106a7542a5fa8d3921c55970077"), looks := false }, kinds := [], alts := [], laidByText := true, laidKinds := [.listed, .data], laidTests := true, laidLooks := .later }
def NodesWholeUptoCardSaid : Prop := Claim7.holds Tryd.pinned (.plain (OpenSpec.upto nodesWholeSpec)) nodesWholeUptoCard
end Rows
end Go.Proofs.YtmapjahpjolmnaaDoor
