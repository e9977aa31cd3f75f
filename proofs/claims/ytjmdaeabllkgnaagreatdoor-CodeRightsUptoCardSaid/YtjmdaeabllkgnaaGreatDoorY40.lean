/- The reference's text of a term. -/
import Derived.Test.YtjmdaeabllkgnaaGreatDoorY38
import Derived.Test.YtjmdaeabllkgnaaGreatDoorY39
import Derived.Test.YtjmdaeabllkgnaaGreatDoorY19
set_option linter.unusedVariables false
set_option linter.unusedSimpArgs false
set_option maxRecDepth 20000
namespace Go.Proofs.YtjmdaeabllkgnaaGreatDoor
open Go Go.Av
variable (G : Nat -> AV)
end Go.Proofs.YtjmdaeabllkgnaaGreatDoor
