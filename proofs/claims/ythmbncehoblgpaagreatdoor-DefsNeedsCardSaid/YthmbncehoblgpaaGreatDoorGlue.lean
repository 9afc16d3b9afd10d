/- From a law's walk to its row: parts for all rows. No conditions. -/
import Derived.Test.YthmbncehoblgpaaGreatDoorTyOpen
import Derived.WalkKit
import Derived.ProofKit
import Derived.OpenShut
import Derived.ChangeOld
import Derived.Below
import Derived.SizedLaws
import Derived.WideKeyArgs
namespace Go.Proofs.YthmbncehoblgpaaGreatDoor.E
open Go Go.RowKit

theorem rep2 {w : World} {C : Cz} {u v : Value} {x y : Val} (h : RepV w C u x) (g : RepV w C v y) : RepVs w C #[u, v].toList [x, y] := .cons h (.cons g ⟨rfl, fun i v x h => by simp at h⟩)
/-- A law that is true: as a call. -/
theorem law_true {P : Program} {f : FuncId} {args : List Val} (h : ACall P f args [] (fun o σ => o = .ret (.c (.d (.bool true))) ∧ σ = [])) {w : World} {vs : Array Value} (hv : RepVs w (czAll w) vs.toList args) (hg : GlobOk w (czAll w) := by intro a v h; simp [globs] at h) :
    Calls P f vs w fun e w' => e = .returned (.bool true) ∧ Below w.heap.size w w' :=
  (h.out w (czAll w) vs (inv_all w hg) hv).mono fun e w' ⟨o, σ', C', ⟨ho, hs⟩, hI, hX, hO⟩ => by
    subst ho; subst hs
    obtain ⟨v, rfl, hr⟩ := hO
    have := bool_of hr
    subst this
    exact ⟨rfl, hX.os, hX.tape, hX.output, hX.size, fun k hk => hX.frame k hk (fun ⟨i, o, e, h, _⟩ => by simp at h) (fun r hr => by simp only [czAll, rgAll] at hr; rw [if_pos hk] at hr; cases hr; rfl)⟩
end Go.Proofs.YthmbncehoblgpaaGreatDoor.E
