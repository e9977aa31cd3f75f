/- Comparing: numbers, texts, the first that is not 0, amounts, integers. -/
import Derived.Test.YtpginpbcndlfmaaDoorZOrd
import Derived.Test.YtpginpbcndlfmaaDoorZB
set_option linter.unusedVariables false
set_option linter.unusedSimpArgs false
set_option maxRecDepth 20000
namespace Go.Proofs.YtpginpbcndlfmaaDoor
open Go Go.Av
variable (G : Nat → AV)
/-! the first of some that is not 0 -/
def ints (l : List Int) : AV := .sl .none (l.map fun n => .int .i64 n) []
end Go.Proofs.YtpginpbcndlfmaaDoor
set_option linter.unusedVariables false
set_option linter.unusedSimpArgs false
set_option maxRecDepth 20000
namespace Go.Proofs.YtpginpbcndlfmaaDoor
open Go Go.Av
variable (G : Nat → AV)
end Go.Proofs.YtpginpbcndlfmaaDoor
