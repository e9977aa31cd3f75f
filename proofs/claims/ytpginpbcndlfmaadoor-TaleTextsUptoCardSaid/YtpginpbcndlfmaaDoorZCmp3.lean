/- Comparing: the order of terms, and what is told of it. -/
import Derived.Test.YtpginpbcndlfmaaDoorZG
import Derived.Test.YtpginpbcndlfmaaDoorZSize3
import Derived.Test.YtpginpbcndlfmaaDoorZTermLent
set_option linter.unusedVariables false
set_option linter.unusedSimpArgs false
set_option maxRecDepth 20000
namespace Go.Proofs.YtpginpbcndlfmaaDoor
open Go Go.Av
variable (G : Nat → AV)
end Go.Proofs.YtpginpbcndlfmaaDoor
