/- Walks: agree of both. No conditions. -/
import Derived.Test.YthmbncehoblgpaaGreatDoorTy6
set_option linter.unusedVariables false
set_option linter.unusedSimpArgs false
namespace Go.Proofs.YthmbncehoblgpaaGreatDoor.E
open Go

end Go.Proofs.YthmbncehoblgpaaGreatDoor.E
