/- Walks: kind, Whole of a thing and itself; whole. No conditions. -/
import Derived.Test.YthmbncehoblgpaaGreatDoorTm10
import Derived.Test.YthmbncehoblgpaaGreatDoorTy9
import Derived.Test.YthmbncehoblgpaaGreatDoorEngX3
set_option linter.unusedVariables false
set_option linter.unusedSimpArgs false
namespace Go.Proofs.YthmbncehoblgpaaGreatDoor.E
open Go

/-! ### whole -/
end Go.Proofs.YthmbncehoblgpaaGreatDoor.E
