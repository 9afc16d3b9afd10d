/- Walks: types.equal, Same; the law OrderGoes. No conditions. -/
import Derived.Test.YthmbncehoblgpaaGreatDoorTy5
set_option linter.unusedVariables false
set_option linter.unusedSimpArgs false
namespace Go.Proofs.YthmbncehoblgpaaGreatDoor.E
open Go

/-! ### An order -/
end Go.Proofs.YthmbncehoblgpaaGreatDoor.E
