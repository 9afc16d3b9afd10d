/- Walks: Meet, kind, met; the law OrderMeet. No conditions. -/
import Derived.Test.YthmbncehoblgpaaGreatDoorTy8
set_option linter.unusedVariables false
set_option linter.unusedSimpArgs false
namespace Go.Proofs.YthmbncehoblgpaaGreatDoor.E
open Go

/-! ### kind, of a type and itself -/
end Go.Proofs.YthmbncehoblgpaaGreatDoor.E
