/-
  DERIVED. GIVEN WITH THE SEED: THE CARDS: each row of YtpginpbcndlfmaaDoorRows.lean that lists a variable, with what it lists TIED to the program's text (the seventh form; the later family's looks); each row that meets fmt, with fmt's text TOLD by the authors' own Lean function (tested against real Go, not proved from fmt's source: count such statements apart). THE CARD IS WHAT COUNTS. Prove the row's statement (the work); the ties are given (YtpginpbcndlfmaaDoorTie.lean); close each card by the builder's one call (the guide's Derived/Test/ToyasCard.lean, 'card_holds'). Laid BY PROGRAM, IN A SANDBOX (cutbox-door.mjs). By AI agents, Wed Nov 11 2026. No macro, syntax, notation, axiom, sorry.
-/
import Derived.Test.YtpginpbcndlfmaaDoorRows
import GoSem.ClaimSeven
namespace Go.Proofs.YtpginpbcndlfmaaDoor
namespace Rows

/-- THE TIED CARD OF 'pigeonholelaw30.TaleOrder'. -/
def taleOrderCard : Claim7 := { stood := { row := taleOrderRow, standIns := [], harness := (true, "7c24a6ed59ae584f471d97f904f2072c959d6cd22806c680c5559057d281f5a7"), looks := false }, kinds := [], alts := [], laidByText := true, laidKinds := [.data, .data, .data, .widerDeep], laidTests := true, laidLooks := .later }
def TaleOrderCardSaid : Prop := Claim7.holds Tryd.pinned (.plain (OpenSpec.ofChange taleOrderSpec)) taleOrderCard

/-- THE TIED CARD OF 'pigeonholelaw30.TaleTexts'. -/
def taleTextsCard : Claim7 := { stood := { row := taleTextsRow, standIns := [], harness := (true, "7c24a6ed59ae584f471d97f904f2072c959d6cd22806c680c5559057d281f5a7"), looks := false }, kinds := [], alts := [], laidByText := true, laidKinds := [.data, .data, .data, .widerDeep], laidTests := true, laidLooks := .later }
def TaleTextsCardSaid : Prop := Claim7.holds Tryd.pinned (.plain (OpenSpec.ofChange taleTextsSpec)) taleTextsCard

/-- THE SECOND FORM's CARD OF 'pigeonholelaw30.TaleOrder'. -/
def taleOrderUptoCard : Claim7 := { stood := { row := taleOrderUptoRow, standIns := [], harness := (true, "7c24a6ed59ae584f471d97f904f2072c959d6cd22806c680c5559057d281f5a7"), looks := false }, kinds := [], alts := [], laidByText := true, laidKinds := [.data, .data, .data, .widerDeep], laidTests := true, laidLooks := .later }
def TaleOrderUptoCardSaid : Prop := Claim7.holds Tryd.pinned (.plain (OpenSpec.upto taleOrderSpec)) taleOrderUptoCard

/-- THE SECOND FORM's CARD OF 'pigeonholelaw30.TaleTexts'. -/
def taleTextsUptoCard : Claim7 := { stood := { row := taleTextsUptoRow, standIns := [], harness := (true, "7c24a6ed59ae584f471d97f904f2072c959d6cd22806c680c5559057d281f5a7"), looks := false }, kinds := [], alts := [], laidByText := true, laidKinds := [.data, .data, .data, .widerDeep], laidTests := true, laidLooks := .later }
def TaleTextsUptoCardSaid : Prop := Claim7.holds Tryd.pinned (.plain (OpenSpec.upto taleTextsSpec)) taleTextsUptoCard
end Rows
end Go.Proofs.YtpginpbcndlfmaaDoor
