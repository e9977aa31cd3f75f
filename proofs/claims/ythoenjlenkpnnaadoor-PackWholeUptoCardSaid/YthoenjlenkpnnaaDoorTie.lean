/-
  DERIVED. GIVEN WITH THE SEED: THE PROGRAM's TIES (one call each: nine closed facts by the kernel) AND EACH ROW's TIE, after the 31st guide's Derived/Test/Toyas{Tie, Card}.lean. No idea stands in it: it is a product of the set-up. Laid BY PROGRAM, IN A SANDBOX (cutbox-door.mjs). By AI agents, Wed Nov 11 2026. No macro, syntax, notation, axiom, sorry.
-/
import Derived.Test.YthoenjlenkpnnaaDoorRows
import Derived.LaidByTextLater
import Derived.SevenTiedAt
import Derived.LaidSub
import Derived.LaidOnce
namespace Go.Proofs.YthoenjlenkpnnaaDoor
open Go
set_option maxRecDepth 100000
theorem seatTie1 : Tryd.prog.laidByTextLater [("bytes.ErrTooLarge", Rows.laid_bytes_ErrTooLarge), ("pigeonhole/lint.builtin", Rows.laid_pigeonhole_lint_builtin), ("pigeonhole/code.shapes", Rows.laid_pigeonhole_code_shapes), ("pigeonhole/pack.fields", Rows.laid_pigeonhole_pack_fields)] [.sentinel, .data, .data, .data] true :=
  Program.laidByTextLater_by_one 75 8 91 (by kernel_rfl) (by kernel_rfl) (by kernel_rfl) (by kernel_rfl) (by kernel_rfl) (by kernel_rfl) (fun _ _ => by kernel_rfl)
theorem noOwnUnsafe : Tryd.pinned.checked.prog.headLifts.contains "ownunsafe" = false := by kernel_rfl
theorem tie : Tryd.prog.laidByTextLater [("bytes.ErrTooLarge", Rows.laid_bytes_ErrTooLarge), ("pigeonhole/lint.builtin", Rows.laid_pigeonhole_lint_builtin), ("pigeonhole/code.shapes", Rows.laid_pigeonhole_code_shapes), ("pigeonhole/pack.fields", Rows.laid_pigeonhole_pack_fields)] [.sentinel, .data, .data, .data] true :=
  Program.laidByTextLater.sub seatTie1 ["bytes.ErrTooLarge", "pigeonhole/lint.builtin", "pigeonhole/code.shapes", "pigeonhole/pack.fields"] (by kernel_rfl) (by kernel_rfl)
theorem packBack_row_tie : Rows.packBackRow.laidByTextAt .later Tryd.pinned [.sentinel, .data, .data, .data] true :=
  OpenClaim.laidByTextAt_later rfl rfl tie noOwnUnsafe
theorem packWhole_row_tie : Rows.packWholeRow.laidByTextAt .later Tryd.pinned [.sentinel, .data, .data, .data] true :=
  OpenClaim.laidByTextAt_later rfl rfl tie noOwnUnsafe
theorem packBackUpto_row_tie : Rows.packBackUptoRow.laidByTextAt .later Tryd.pinned [.sentinel, .data, .data, .data] true :=
  OpenClaim.laidByTextAt_later rfl rfl tie noOwnUnsafe
theorem packWholeUpto_row_tie : Rows.packWholeUptoRow.laidByTextAt .later Tryd.pinned [.sentinel, .data, .data, .data] true :=
  OpenClaim.laidByTextAt_later rfl rfl tie noOwnUnsafe
end Go.Proofs.YthoenjlenkpnnaaDoor
