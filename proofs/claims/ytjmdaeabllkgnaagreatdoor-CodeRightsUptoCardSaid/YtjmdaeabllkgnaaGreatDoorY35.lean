/- The reference's bits: at, cut, below. -/
import Derived.Test.YtjmdaeabllkgnaaGreatDoorY13
import Derived.Test.YtjmdaeabllkgnaaGreatDoorY14
import Derived.Test.YtjmdaeabllkgnaaGreatDoorY15
import Derived.Test.YtjmdaeabllkgnaaGreatDoorY22
set_option linter.unusedVariables false
set_option linter.unusedSimpArgs false
set_option maxRecDepth 20000
namespace Go.Proofs.YtjmdaeabllkgnaaGreatDoor
open Go Go.Av
section
variable (G : Nat -> AV)
def bools (l : List Bool) : AV := .sl .none (l.map AV.bool) []
instance {l : List Bool} : NotBs (bools l) := ⟨fun _ _ _ _ h => by unfold bools at h; cases h⟩
theorem isv_bools (l : List Bool) : isv (bools l) = true := rfl
theorem flat_bools (l : List Bool) : flat (bools l) = [bools l] := rfl
theorem len_bools {P : Program} {t : TypeId} (l : List Bool) : ablt P .len #[t] [bools l] = if (el P t).isSome then some (.int .i64 l.length) else none := by
 simp [bools, l_sl]
def atB (l : List Bool) (i : Nat) : Bool := l[i]?.getD false
def bel (x y : List Bool) : Nat -> Bool
 | 0 => false
 | n + 1 => if atB x n = atB y n then bel x y n else atB y n
def below (x y : List Bool) : Bool := bel x y (max x.length y.length)
end
set_option maxRecDepth 20000
section
end
section
end
set_option maxRecDepth 20000
section
variable (G : Nat -> AV)
end
set_option maxRecDepth 20000
section
variable (G : Nat -> AV)
end
end Go.Proofs.YtjmdaeabllkgnaaGreatDoor
