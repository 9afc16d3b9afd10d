/- Walks: meet of both. No conditions. -/
import Derived.Test.YthmbncehoblgpaaGreatDoorTy7
import Derived.Test.YthmbncehoblgpaaGreatDoorEngX3
set_option linter.unusedVariables false
set_option linter.unusedSimpArgs false
namespace Go.Proofs.YthmbncehoblgpaaGreatDoor.E
open Go

/-! ### order.meet -/
end Go.Proofs.YthmbncehoblgpaaGreatDoor.E
