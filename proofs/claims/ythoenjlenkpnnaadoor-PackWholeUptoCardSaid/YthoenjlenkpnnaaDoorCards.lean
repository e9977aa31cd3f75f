/-
  DERIVED. GIVEN WITH THE SEED: THE CARDS: each row of YthoenjlenkpnnaaDoorRows.lean that lists a variable, with what it lists TIED to the program's text (the seventh form; the later family's looks); each row that meets fmt, with fmt's text TOLD by the authors' own Lean function (tested against real Go, not proved from fmt's source: count such statements apart). THE CARD IS WHAT COUNTS. Prove the row's statement (the work); the ties are given (YthoenjlenkpnnaaDoorTie.lean); close each card by the builder's one call (the guide's Derived/Test/ToyasCard.lean, 'card_holds'). Laid BY PROGRAM, IN A SANDBOX (cutbox-door.mjs). By AI agents, Wed Nov 11 2026. No macro, syntax, notation, axiom, sorry.
-/
import Derived.Test.YthoenjlenkpnnaaDoorRows
import GoSem.ClaimSeven
namespace Go.Proofs.YthoenjlenkpnnaaDoor
namespace Rows

/-- THE TIED CARD OF 'pigeonholelaw21.PackBack'. -/
def packBackCard : Claim7 := { stood := { row := packBackRow, standIns := [], harness := (true, "14728f9e6ab0199a643f8a704416cbd7434ca3cf51f38991942f745a30681061"), looks := false }, kinds := [], alts := [], laidByText := true, laidKinds := [.sentinel, .data, .data, .data], laidTests := true, laidLooks := .later }
def PackBackCardSaid : Prop := Claim7.holds Tryd.pinned (.plain (OpenSpec.ofChange packBackSpec)) packBackCard

/-- THE TIED CARD OF 'pigeonholelaw21.PackWhole'. -/
def packWholeCard : Claim7 := { stood := { row := packWholeRow, standIns := [], harness := (true, "14728f9e6ab0199a643f8a704416cbd7434ca3cf51f38991942f745a30681061"), looks := false }, kinds := [], alts := [], laidByText := true, laidKinds := [.sentinel, .data, .data, .data], laidTests := true, laidLooks := .later }
def PackWholeCardSaid : Prop := Claim7.holds Tryd.pinned (.plain (OpenSpec.ofChange packWholeSpec)) packWholeCard

/-- THE SECOND FORM's CARD OF 'pigeonholelaw21.PackBack'. -/
def packBackUptoCard : Claim7 := { stood := { row := packBackUptoRow, standIns := [], harness := (true, "14728f9e6ab0199a643f8a704416cbd7434ca3cf51f38991942f745a30681061"), looks := false }, kinds := [], alts := [], laidByText := true, laidKinds := [.sentinel, .data, .data, .data], laidTests := true, laidLooks := .later }
def PackBackUptoCardSaid : Prop := Claim7.holds Tryd.pinned (.plain (OpenSpec.upto packBackSpec)) packBackUptoCard

/-- THE SECOND FORM's CARD OF 'pigeonholelaw21.PackWhole'. -/
def packWholeUptoCard : Claim7 := { stood := { row := packWholeUptoRow, standIns := [], harness := (true, "14728f9e6ab0199a643f8a704416cbd7434ca3cf51f38991942f745a30681061"), looks := false }, kinds := [], alts := [], laidByText := true, laidKinds := [.sentinel, .data, .data, .data], laidTests := true, laidLooks := .later }
def PackWholeUptoCardSaid : Prop := Claim7.holds Tryd.pinned (.plain (OpenSpec.upto packWholeSpec)) packWholeUptoCard
end Rows
end Go.Proofs.YthoenjlenkpnnaaDoor
