/-
  DERIVED. GIVEN WITH THE SEED: THE CARDS: each row of YtjnhalmeddafdaaDoorRows.lean that lists a variable, with what it lists TIED to the program's text (the seventh form; the later family's looks); each row that meets fmt, with fmt's text TOLD by the authors' own Lean function (tested against real Go, not proved from fmt's source: count such statements apart). THE CARD IS WHAT COUNTS. Prove the row's statement (the work); the ties are given (YtjnhalmeddafdaaDoorTie.lean); close each card by the builder's one call (the guide's Derived/Test/ToyasCard.lean, 'card_holds'). Laid BY PROGRAM, IN A SANDBOX (cutbox-door.mjs). By AI agents, Wed Nov 11 2026. No macro, syntax, notation, axiom, sorry.
-/
import Derived.Test.YtjnhalmeddafdaaDoorRows
import GoSem.ClaimSeven
namespace Go.Proofs.YtjnhalmeddafdaaDoor
namespace Rows

/-- THE TIED CARD OF 'pigeonholelaw02.TermOrders'. -/
def termOrdersCard : Claim7 := { stood := { row := termOrdersRow, standIns := [], harness := (true, "9dbd01de0d8b86e224f9414a8d608fbb3db764b53b2dca7ff94ed7e5e28ac351"), looks := false }, kinds := [], alts := [], laidByText := true, laidKinds := [.data, .data, .data, .widerDeep], laidTests := true, laidLooks := .later }
def TermOrdersCardSaid : Prop := Claim7.holds Tryd.pinned (.plain (OpenSpec.ofChange termOrdersSpec)) termOrdersCard

/-- THE TIED CARD OF 'pigeonholelaw02.TermOrder'. -/
def termOrderCard : Claim7 := { stood := { row := termOrderRow, standIns := [], harness := (true, "9dbd01de0d8b86e224f9414a8d608fbb3db764b53b2dca7ff94ed7e5e28ac351"), looks := false }, kinds := [], alts := [], laidByText := true, laidKinds := [.data, .data, .data, .widerDeep], laidTests := true, laidLooks := .later }
def TermOrderCardSaid : Prop := Claim7.holds Tryd.pinned (.plain (OpenSpec.ofChange termOrderSpec)) termOrderCard

/-- THE TIED CARD OF 'pigeonholelaw02.TermSplits'. -/
def termSplitsCard : Claim7 := { stood := { row := termSplitsRow, standIns := [], harness := (true, "9dbd01de0d8b86e224f9414a8d608fbb3db764b53b2dca7ff94ed7e5e28ac351"), looks := false }, kinds := [], alts := [], laidByText := true, laidKinds := [.data, .data, .data, .widerDeep], laidTests := true, laidLooks := .later }
def TermSplitsCardSaid : Prop := Claim7.holds Tryd.pinned (.plain (OpenSpec.ofChange termSplitsSpec)) termSplitsCard

/-- THE TIED CARD OF 'pigeonholelaw02.TermTexts'. -/
def termTextsCard : Claim7 := { stood := { row := termTextsRow, standIns := [], harness := (true, "9dbd01de0d8b86e224f9414a8d608fbb3db764b53b2dca7ff94ed7e5e28ac351"), looks := false }, kinds := [], alts := [], laidByText := true, laidKinds := [.data, .data, .data, .widerDeep], laidTests := true, laidLooks := .later }
def TermTextsCardSaid : Prop := Claim7.holds Tryd.pinned (.plain (OpenSpec.ofChange termTextsSpec)) termTextsCard

/-- THE SECOND FORM's CARD OF 'pigeonholelaw02.TermOrders'. -/
def termOrdersUptoCard : Claim7 := { stood := { row := termOrdersUptoRow, standIns := [], harness := (true, "9dbd01de0d8b86e224f9414a8d608fbb3db764b53b2dca7ff94ed7e5e28ac351"), looks := false }, kinds := [], alts := [], laidByText := true, laidKinds := [.data, .data, .data, .widerDeep], laidTests := true, laidLooks := .later }
def TermOrdersUptoCardSaid : Prop := Claim7.holds Tryd.pinned (.plain (OpenSpec.upto termOrdersSpec)) termOrdersUptoCard

/-- THE SECOND FORM's CARD OF 'pigeonholelaw02.TermOrder'. -/
def termOrderUptoCard : Claim7 := { stood := { row := termOrderUptoRow, standIns := [], harness := (true, "9dbd01de0d8b86e224f9414a8d608fbb3db764b53b2dca7ff94ed7e5e28ac351"), looks := false }, kinds := [], alts := [], laidByText := true, laidKinds := [.data, .data, .data, .widerDeep], laidTests := true, laidLooks := .later }
def TermOrderUptoCardSaid : Prop := Claim7.holds Tryd.pinned (.plain (OpenSpec.upto termOrderSpec)) termOrderUptoCard

/-- THE SECOND FORM's CARD OF 'pigeonholelaw02.TermSplits'. -/
def termSplitsUptoCard : Claim7 := { stood := { row := termSplitsUptoRow, standIns := [], harness := (true, "9dbd01de0d8b86e224f9414a8d608fbb3db764b53b2dca7ff94ed7e5e28ac351"), looks := false }, kinds := [], alts := [], laidByText := true, laidKinds := [.data, .data, .data, .widerDeep], laidTests := true, laidLooks := .later }
def TermSplitsUptoCardSaid : Prop := Claim7.holds Tryd.pinned (.plain (OpenSpec.upto termSplitsSpec)) termSplitsUptoCard

/-- THE SECOND FORM's CARD OF 'pigeonholelaw02.TermTexts'. -/
def termTextsUptoCard : Claim7 := { stood := { row := termTextsUptoRow, standIns := [], harness := (true, "9dbd01de0d8b86e224f9414a8d608fbb3db764b53b2dca7ff94ed7e5e28ac351"), looks := false }, kinds := [], alts := [], laidByText := true, laidKinds := [.data, .data, .data, .widerDeep], laidTests := true, laidLooks := .later }
def TermTextsUptoCardSaid : Prop := Claim7.holds Tryd.pinned (.plain (OpenSpec.upto termTextsSpec)) termTextsUptoCard
end Rows
end Go.Proofs.YtjnhalmeddafdaaDoor
