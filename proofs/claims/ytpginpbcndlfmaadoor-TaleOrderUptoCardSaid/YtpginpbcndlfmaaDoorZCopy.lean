/- Terms in memory of their own. -/
import Derived.Test.YtpginpbcndlfmaaDoorZCmp3
import Derived.Test.YtpginpbcndlfmaaDoorZSaid
set_option linter.unusedVariables false
set_option linter.unusedSimpArgs false
set_option maxRecDepth 20000
namespace Go.Proofs.YtpginpbcndlfmaaDoor
open Go Go.Av
variable (G : Nat → AV)
end Go.Proofs.YtpginpbcndlfmaaDoor
