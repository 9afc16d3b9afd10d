/- Walks: bare of terms in the document's answer; Bare, both. No conditions. -/
import Derived.Test.YthmbncehoblgpaaGreatDoorTm13
set_option linter.unusedVariables false
set_option linter.unusedSimpArgs false
namespace Go.Proofs.YthmbncehoblgpaaGreatDoor.E
open Go

theorem tmcheck_ok {t : Tm} (h : tmcheck t = 0) : tmN t ≤ 8192 ∧ tmright t = true := by
  unfold tmcheck at h
  split at h
  · omega
  · split at h
    · omega
    · split at h
      · rename_i h3; exact ⟨by omega, h3⟩
      · omega
end Go.Proofs.YthmbncehoblgpaaGreatDoor.E
