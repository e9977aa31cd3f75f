/-
  DERIVED. GIVEN WITH THE SEED: THE CARDS: each row of YtphnoaihojccbaaGreatDoorRows.lean that lists a variable, with what it lists TIED to the program's text (the seventh form; the later family's looks); each row that meets fmt, with fmt's text TOLD by the authors' own Lean function (tested against real Go, not proved from fmt's source: count such statements apart). THE CARD IS WHAT COUNTS. Prove the row's statement (the work); the ties are given (YtphnoaihojccbaaGreatDoorTie.lean); close each card by the builder's one call (the guide's Derived/Test/ToyasCard.lean, 'card_holds'). Laid BY PROGRAM, IN A SANDBOX (cutbox-door.mjs). By AI agents, Wed Nov 11 2026. No macro, syntax, notation, axiom, sorry.
-/
import Derived.Test.YtphnoaihojccbaaGreatDoorRows
import GoSem.ClaimSeven
namespace Go.Proofs.YtphnoaihojccbaaGreatDoor
namespace Rows

/-- THE TIED CARD OF 'pigeonholelaw30.TaleTells'. -/
def taleTellsCard : Claim7 := { stood := { row := taleTellsRow, standIns := [], harness := (true, "67c82b1e91bddc9807ec3e0e24e206c4da00ccf66d2f656c5ddcb2c92261b0e8"), looks := false }, kinds := [], alts := [], laidByText := true, laidKinds := [.data, .data, .data, .widerDeep], laidTests := true, laidLooks := .later }
def TaleTellsCardSaid : Prop := Claim7.holds Tryz.pinned (.plain (OpenSpec.ofChange taleTellsSpec)) taleTellsCard

/-- THE TIED CARD OF 'pigeonholelaw30.TaleNumbers'. -/
def taleNumbersCard : Claim7 := { stood := { row := taleNumbersRow, standIns := [], harness := (true, "67c82b1e91bddc9807ec3e0e24e206c4da00ccf66d2f656c5ddcb2c92261b0e8"), looks := false }, kinds := [], alts := [], laidByText := true, laidKinds := [.data, .data, .data, .widerDeep], laidTests := true, laidLooks := .later }
def TaleNumbersCardSaid : Prop := Claim7.holds Tryz.pinned (.plain (OpenSpec.ofChange taleNumbersSpec)) taleNumbersCard

/-- THE SECOND FORM's CARD OF 'pigeonholelaw30.TaleTells'. -/
def taleTellsUptoCard : Claim7 := { stood := { row := taleTellsUptoRow, standIns := [], harness := (true, "67c82b1e91bddc9807ec3e0e24e206c4da00ccf66d2f656c5ddcb2c92261b0e8"), looks := false }, kinds := [], alts := [], laidByText := true, laidKinds := [.data, .data, .data, .widerDeep], laidTests := true, laidLooks := .later }
def TaleTellsUptoCardSaid : Prop := Claim7.holds Tryz.pinned (.plain (OpenSpec.upto taleTellsSpec)) taleTellsUptoCard

/-- THE SECOND FORM's CARD OF 'pigeonholelaw30.TaleNumbers'. -/
def taleNumbersUptoCard : Claim7 := { stood := { row := taleNumbersUptoRow, standIns := [], harness := (true, "67c82b1e91bddc9807ec3e0e24e206c4da00ccf66d2f656c5ddcb2c92261b0e8"), looks := false }, kinds := [], alts := [], laidByText := true, laidKinds := [.data, .data, .data, .widerDeep], laidTests := true, laidLooks := .later }
def TaleNumbersUptoCardSaid : Prop := Claim7.holds Tryz.pinned (.plain (OpenSpec.upto taleNumbersSpec)) taleNumbersUptoCard
end Rows
end Go.Proofs.YtphnoaihojccbaaGreatDoor
