/-
  DERIVED. GIVEN WITH THE SEED: THE CARDS: each row of YtchakddenojhdaaDoorRows.lean that lists a variable, with what it lists TIED to the program's text (the seventh form; the later family's looks); each row that meets fmt, with fmt's text TOLD by the authors' own Lean function (tested against real Go, not proved from fmt's source: count such statements apart). THE CARD IS WHAT COUNTS. Prove the row's statement (the work); the ties are given (YtchakddenojhdaaDoorTie.lean); close each card by the builder's one call (the guide's Derived/Test/ToyasCard.lean, 'card_holds'). Laid BY PROGRAM, IN A SANDBOX (cutbox-door.mjs). By AI agents, Wed Nov 11 2026. No macro, syntax, notation, axiom, sorry.
-/
import Derived.Test.YtchakddenojhdaaDoorRows
import GoSem.ClaimSeven
namespace Go.Proofs.YtchakddenojhdaaDoor
namespace Rows

/-- THE TIED CARD OF 'pigeonholelaw04.NodeParts'. -/
def nodePartsCard : Claim7 := { stood := { row := nodePartsRow, standIns := [], harness := (true, "3d10a5d3eb71aa1a84093f998214cce3be46128676063a026a335b2854720861"), looks := false }, kinds := [], alts := [], laidByText := true, laidKinds := [.data, .data, .pinned], laidTests := true, laidLooks := .later }
def NodePartsCardSaid : Prop := Claim7.holds Tryd.pinned (.plain (OpenSpec.ofChange nodePartsSpec)) nodePartsCard

/-- THE TIED CARD OF 'pigeonholelaw04.NodeSames'. -/
def nodeSamesCard : Claim7 := { stood := { row := nodeSamesRow, standIns := [], harness := (true, "3d10a5d3eb71aa1a84093f998214cce3be46128676063a026a335b2854720861"), looks := false }, kinds := [], alts := [], laidByText := true, laidKinds := [.data, .data, .pinned], laidTests := true, laidLooks := .later }
def NodeSamesCardSaid : Prop := Claim7.holds Tryd.pinned (.plain (OpenSpec.ofChange nodeSamesSpec)) nodeSamesCard

/-- THE TIED CARD OF 'pigeonholelaw04.NodeWithin'. -/
def nodeWithinCard : Claim7 := { stood := { row := nodeWithinRow, standIns := [], harness := (true, "3d10a5d3eb71aa1a84093f998214cce3be46128676063a026a335b2854720861"), looks := false }, kinds := [], alts := [], laidByText := true, laidKinds := [.data, .data, .pinned], laidTests := true, laidLooks := .later }
def NodeWithinCardSaid : Prop := Claim7.holds Tryd.pinned (.plain (OpenSpec.ofChange nodeWithinSpec)) nodeWithinCard

/-- THE SECOND FORM's CARD OF 'pigeonholelaw04.NodeParts'. -/
def nodePartsUptoCard : Claim7 := { stood := { row := nodePartsUptoRow, standIns := [], harness := (true, "3d10a5d3eb71aa1a84093f998214cce3be46128676063a026a335b2854720861"), looks := false }, kinds := [], alts := [], laidByText := true, laidKinds := [.data, .data, .pinned], laidTests := true, laidLooks := .later }
def NodePartsUptoCardSaid : Prop := Claim7.holds Tryd.pinned (.plain (OpenSpec.upto nodePartsSpec)) nodePartsUptoCard

/-- THE SECOND FORM's CARD OF 'pigeonholelaw04.NodeSames'. -/
def nodeSamesUptoCard : Claim7 := { stood := { row := nodeSamesUptoRow, standIns := [], harness := (true, "3d10a5d3eb71aa1a84093f998214cce3be46128676063a026a335b2854720861"), looks := false }, kinds := [], alts := [], laidByText := true, laidKinds := [.data, .data, .pinned], laidTests := true, laidLooks := .later }
def NodeSamesUptoCardSaid : Prop := Claim7.holds Tryd.pinned (.plain (OpenSpec.upto nodeSamesSpec)) nodeSamesUptoCard

/-- THE SECOND FORM's CARD OF 'pigeonholelaw04.NodeWithin'. -/
def nodeWithinUptoCard : Claim7 := { stood := { row := nodeWithinUptoRow, standIns := [], harness := (true, "3d10a5d3eb71aa1a84093f998214cce3be46128676063a026a335b2854720861"), looks := false }, kinds := [], alts := [], laidByText := true, laidKinds := [.data, .data, .pinned], laidTests := true, laidLooks := .later }
def NodeWithinUptoCardSaid : Prop := Claim7.holds Tryd.pinned (.plain (OpenSpec.upto nodeWithinSpec)) nodeWithinUptoCard
end Rows
end Go.Proofs.YtchakddenojhdaaDoor
