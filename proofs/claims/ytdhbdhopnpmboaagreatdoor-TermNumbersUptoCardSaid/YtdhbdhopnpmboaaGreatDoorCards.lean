/-
  DERIVED. GIVEN WITH THE SEED: THE CARDS: each row of YtdhbdhopnpmboaaGreatDoorRows.lean that lists a variable, with what it lists TIED to the program's text (the seventh form; the later family's looks); each row that meets fmt, with fmt's text TOLD by the authors' own Lean function (tested against real Go, not proved from fmt's source: count such statements apart). THE CARD IS WHAT COUNTS. Prove the row's statement (the work); the ties are given (YtdhbdhopnpmboaaGreatDoorTie.lean); close each card by the builder's one call (the guide's Derived/Test/ToyasCard.lean, 'card_holds'). Laid BY PROGRAM, IN A SANDBOX (cutbox-door.mjs). By AI agents, Wed Nov 11 2026. No macro, syntax, notation, axiom, sorry.
-/
import Derived.Test.YtdhbdhopnpmboaaGreatDoorRows
import GoSem.ClaimSeven
namespace Go.Proofs.YtdhbdhopnpmboaaGreatDoor
namespace Rows

/-- THE TIED CARD OF 'pigeonholelaw02.TermTells'. -/
def termTellsCard : Claim7 := { stood := { row := termTellsRow, standIns := [], harness := (true, "d9502d468b5dfe187aa6d1e4dffd0a844ca5cca76f4b01d60dd44efc274d7984"), looks := false }, kinds := [], alts := [], laidByText := true, laidKinds := [.data, .data, .data, .widerDeep], laidTests := true, laidLooks := .later }
def TermTellsCardSaid : Prop := Claim7.holds Tryz.pinned (.plain (OpenSpec.ofChange termTellsSpec)) termTellsCard

/-- THE TIED CARD OF 'pigeonholelaw02.TermLists'. -/
def termListsCard : Claim7 := { stood := { row := termListsRow, standIns := [], harness := (true, "d9502d468b5dfe187aa6d1e4dffd0a844ca5cca76f4b01d60dd44efc274d7984"), looks := false }, kinds := [], alts := [], laidByText := true, laidKinds := [.data, .data, .data, .widerDeep], laidTests := true, laidLooks := .later }
def TermListsCardSaid : Prop := Claim7.holds Tryz.pinned (.plain (OpenSpec.ofChange termListsSpec)) termListsCard

/-- THE TIED CARD OF 'pigeonholelaw02.TermNumbers'. -/
def termNumbersCard : Claim7 := { stood := { row := termNumbersRow, standIns := [], harness := (true, "d9502d468b5dfe187aa6d1e4dffd0a844ca5cca76f4b01d60dd44efc274d7984"), looks := false }, kinds := [], alts := [], laidByText := true, laidKinds := [.data, .data, .data, .widerDeep], laidTests := true, laidLooks := .later }
def TermNumbersCardSaid : Prop := Claim7.holds Tryz.pinned (.plain (OpenSpec.ofChange termNumbersSpec)) termNumbersCard

/-- THE SECOND FORM's CARD OF 'pigeonholelaw02.TermTells'. -/
def termTellsUptoCard : Claim7 := { stood := { row := termTellsUptoRow, standIns := [], harness := (true, "d9502d468b5dfe187aa6d1e4dffd0a844ca5cca76f4b01d60dd44efc274d7984"), looks := false }, kinds := [], alts := [], laidByText := true, laidKinds := [.data, .data, .data, .widerDeep], laidTests := true, laidLooks := .later }
def TermTellsUptoCardSaid : Prop := Claim7.holds Tryz.pinned (.plain (OpenSpec.upto termTellsSpec)) termTellsUptoCard

/-- THE SECOND FORM's CARD OF 'pigeonholelaw02.TermLists'. -/
def termListsUptoCard : Claim7 := { stood := { row := termListsUptoRow, standIns := [], harness := (true, "d9502d468b5dfe187aa6d1e4dffd0a844ca5cca76f4b01d60dd44efc274d7984"), looks := false }, kinds := [], alts := [], laidByText := true, laidKinds := [.data, .data, .data, .widerDeep], laidTests := true, laidLooks := .later }
def TermListsUptoCardSaid : Prop := Claim7.holds Tryz.pinned (.plain (OpenSpec.upto termListsSpec)) termListsUptoCard

/-- THE SECOND FORM's CARD OF 'pigeonholelaw02.TermNumbers'. -/
def termNumbersUptoCard : Claim7 := { stood := { row := termNumbersUptoRow, standIns := [], harness := (true, "d9502d468b5dfe187aa6d1e4dffd0a844ca5cca76f4b01d60dd44efc274d7984"), looks := false }, kinds := [], alts := [], laidByText := true, laidKinds := [.data, .data, .data, .widerDeep], laidTests := true, laidLooks := .later }
def TermNumbersUptoCardSaid : Prop := Claim7.holds Tryz.pinned (.plain (OpenSpec.upto termNumbersSpec)) termNumbersUptoCard
end Rows
end Go.Proofs.YtdhbdhopnpmboaaGreatDoor
