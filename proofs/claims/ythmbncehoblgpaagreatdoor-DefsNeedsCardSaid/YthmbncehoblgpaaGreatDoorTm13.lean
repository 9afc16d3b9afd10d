/- Walks: bare of terms, both. No conditions. -/
import Derived.Test.YthmbncehoblgpaaGreatDoorTm12
set_option linter.unusedVariables false
set_option linter.unusedSimpArgs false
namespace Go.Proofs.YthmbncehoblgpaaGreatDoor.E
open Go

end Go.Proofs.YthmbncehoblgpaaGreatDoor.E
