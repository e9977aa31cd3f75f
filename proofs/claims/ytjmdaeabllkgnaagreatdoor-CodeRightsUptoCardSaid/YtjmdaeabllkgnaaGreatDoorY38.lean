/- The reference's integers: of a number, and a number's digits. -/
import Derived.Test.YtjmdaeabllkgnaaGreatDoorY37
import Derived.Test.YtjmdaeabllkgnaaGreatDoorY36
import Derived.Test.YtjmdaeabllkgnaaGreatDoorY17
set_option linter.unusedVariables false
set_option linter.unusedSimpArgs false
set_option maxRecDepth 20000
namespace Go.Proofs.YtjmdaeabllkgnaaGreatDoor
open Go Go.Av
section
variable (G : Nat -> AV)
end
set_option maxRecDepth 20000
section
variable (G : Nat -> AV)
end
set_option maxRecDepth 20000
section
variable (G : Nat -> AV)
end
end Go.Proofs.YtjmdaeabllkgnaaGreatDoor
