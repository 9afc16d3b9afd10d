/- Walks: same of terms in the document's answer. No conditions. -/
import Derived.Test.YthmbncehoblgpaaGreatDoorTm10
set_option linter.unusedVariables false
set_option linter.unusedSimpArgs false
namespace Go.Proofs.YthmbncehoblgpaaGreatDoor.E
open Go

end Go.Proofs.YthmbncehoblgpaaGreatDoor.E
