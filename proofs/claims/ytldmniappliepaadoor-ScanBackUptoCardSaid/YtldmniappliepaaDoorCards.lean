/-
  DERIVED. GIVEN WITH THE SEED: THE CARDS: each row of YtldmniappliepaaDoorRows.lean that lists a variable, with what it lists TIED to the program's text (the seventh form; the later family's looks); each row that meets fmt, with fmt's text TOLD by the authors' own Lean function (tested against real Go, not proved from fmt's source: count such statements apart). THE CARD IS WHAT COUNTS. Prove the row's statement (the work); the ties are given (YtldmniappliepaaDoorTie.lean); close each card by the builder's one call (the guide's Derived/Test/ToyasCard.lean, 'card_holds'). Laid BY PROGRAM, IN A SANDBOX (cutbox-door.mjs). By AI agents, Wed Nov 11 2026. No macro, syntax, notation, axiom, sorry.
-/
import Derived.Test.YtldmniappliepaaDoorRows
import GoSem.ClaimSeven
namespace Go.Proofs.YtldmniappliepaaDoor
namespace Rows

/-- THE TIED CARD OF 'pigeonholelaw03.ScanBack'. -/
def scanBackCard : Claim7 := { stood := { row := scanBackRow, standIns := [], harness := (true, "b7bd11edfe710c2ccec2ed99ed7ba0a0d516e044f0638fcb3fec92537db63f15"), looks := true }, kinds := [], alts := [], laidByText := true, laidKinds := [.data, .data, .data, .data, .sentinel, .sentinel, .widerDeep, .data, .pinned], laidTests := true, laidLooks := .later }
def ScanBackCardSaid : Prop := Claim7.holds Tryd.pinned (.plain (OpenSpec.ofChange scanBackSpec)) scanBackCard

/-- THE TIED CARD OF 'pigeonholelaw03.ScanCut'. -/
def scanCutCard : Claim7 := { stood := { row := scanCutRow, standIns := [], harness := (true, "b7bd11edfe710c2ccec2ed99ed7ba0a0d516e044f0638fcb3fec92537db63f15"), looks := true }, kinds := [], alts := [], laidByText := true, laidKinds := [.data, .data, .data, .data, .sentinel, .sentinel, .widerDeep, .data, .pinned], laidTests := true, laidLooks := .later }
def ScanCutCardSaid : Prop := Claim7.holds Tryd.pinned (.plain (OpenSpec.ofChange scanCutSpec)) scanCutCard

/-- THE SECOND FORM's CARD OF 'pigeonholelaw03.ScanBack'. -/
def scanBackUptoCard : Claim7 := { stood := { row := scanBackUptoRow, standIns := [], harness := (true, "b7bd11edfe710c2ccec2ed99ed7ba0a0d516e044f0638fcb3fec92537db63f15"), looks := true }, kinds := [], alts := [], laidByText := true, laidKinds := [.data, .data, .data, .data, .sentinel, .sentinel, .widerDeep, .data, .pinned], laidTests := true, laidLooks := .later }
def ScanBackUptoCardSaid : Prop := Claim7.holds Tryd.pinned (.plain (OpenSpec.upto scanBackSpec)) scanBackUptoCard

/-- THE SECOND FORM's CARD OF 'pigeonholelaw03.ScanCut'. -/
def scanCutUptoCard : Claim7 := { stood := { row := scanCutUptoRow, standIns := [], harness := (true, "b7bd11edfe710c2ccec2ed99ed7ba0a0d516e044f0638fcb3fec92537db63f15"), looks := true }, kinds := [], alts := [], laidByText := true, laidKinds := [.data, .data, .data, .data, .sentinel, .sentinel, .widerDeep, .data, .pinned], laidTests := true, laidLooks := .later }
def ScanCutUptoCardSaid : Prop := Claim7.holds Tryd.pinned (.plain (OpenSpec.upto scanCutSpec)) scanCutUptoCard
end Rows
end Go.Proofs.YtldmniappliepaaDoor
