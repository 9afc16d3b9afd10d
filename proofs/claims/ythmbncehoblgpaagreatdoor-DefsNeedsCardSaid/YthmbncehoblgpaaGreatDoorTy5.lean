/- Walks: less of both; Less of both; the law. No conditions. -/
import Derived.Test.YthmbncehoblgpaaGreatDoorTy4
set_option linter.unusedVariables false
set_option linter.unusedSimpArgs false
namespace Go.Proofs.YthmbncehoblgpaaGreatDoor.E
open Go

/-! ### less, Less -/
end Go.Proofs.YthmbncehoblgpaaGreatDoor.E
