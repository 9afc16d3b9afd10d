/- Walks: right of terms. No conditions. -/
import Derived.Test.YthmbncehoblgpaaGreatDoorTm4
set_option linter.unusedVariables false
set_option linter.unusedSimpArgs false
namespace Go.Proofs.YthmbncehoblgpaaGreatDoor.E
open Go

def opsF : List ByteArray := [⟨#[43]⟩, ⟨#[45]⟩, ⟨#[42]⟩, ⟨#[47]⟩, ⟨#[60]⟩, ⟨#[61]⟩]
def opF (s : ByteArray) : Bool := opsF.any (fun k => decide (s = k))
set_option maxRecDepth 10000 in
theorem rop_call (s : ByteArray) : ACall Tryz.prog 74 [.c (.d (.str s))] [] (fun o σ => o = .ret (.c (.d (.bool (opF s)))) ∧ σ = []) := by
  refine ACall.body tab_ok (ρ := 0) (N := 25) Tryz.func74 rfl rfl rfl rfl rfl ?_
  repeat' first | refine AW.seq ?_ | refine AW.block ?_ | ((first | refine AW.region tab_ok ?_ | refine AW.cond ?_ | refine AW.skip ?_ | refine AW.ret ?_ | refine AW.exit ?_); conv => whnf) | ((first | refine And.intro (@rfl Val _) ?_ | refine And.intro (by decide) ?_ | refine cs (fun _ => ?_) (fun _ => ?_)) <;> conv => whnf)
  all_goals
    refine ⟨outb ?_, rfl⟩
    simp at *
    simp [opF, opsF, *]

/-- A term's own cells are right. -/
def ownRight : Tm → Bool
  | .node k name arg num tk tks uk uks label place ks =>
    decide (kidsK k = ks.length) && (!decide (k = 17) || (!decide (label = 0) && decide (-2147483648 ≤ label) && decide (label ≤ 2147483648)))
      && (!nameK k || nameF name) && (!argK k || nameF arg) && (!typeK k || decide (tcheck (.node tk tks) = 0)) && (!toK k || decide (tcheck (.node uk uks) = 0)) && (!decide (k = 15) || opF name)
mutual
def tmright : Tm → Bool
  | .node k name arg num tk tks uk uks label place ks => ownRight (.node k name arg num tk tks uk uks label place ks) && tmrights ks
def tmrights : List Tm → Bool
  | [] => true
  | t :: l => tmright t && tmrights l
end
theorem tmrights_all : ∀ (ks : List Tm), tmrights ks = true ↔ ∀ t ∈ ks, tmright t = true
  | [] => by simp [tmrights]
  | t :: l => by simp [tmrights, tmrights_all l]
end Go.Proofs.YthmbncehoblgpaaGreatDoor.E
