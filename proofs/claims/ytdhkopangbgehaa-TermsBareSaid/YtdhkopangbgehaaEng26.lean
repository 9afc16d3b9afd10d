/- The engine, part 26: a call whose argument tells more than the contract asks. No conditions. -/
import Derived.Test.YtdhkopangbgehaaEng25
set_option linter.unusedVariables false
set_option linter.unusedSimpArgs false
set_option linter.unusedSectionVars false
namespace Go.Proofs.Ytdhkopangbgehaa.E
open Go

theorem RepD.front {w : World} {rg : Nat → Option Nat} {v : Value} {r : Nat} {a b : List DV} (h : RepD w rg v (.rp r (a ++ b))) : RepD w rg v (.rp r a) := by
  cases h with
  | rp _ b' o _ cs e fz vs hr hh hcell hrep =>
    exact .rp r b' o a cs e fz vs hr hh (fun i hi => hcell i (by simp; omega)) (fun i x hx => hrep i x (by
      rw [List.getElem?_append_left (List.getElem?_eq_some_iff.1 hx).1]; exact hx))

/-- The first tells no less than the second. -/
inductive ArgLe : Val → Val → Prop where
  | same (x : Val) : ArgLe x x
  | rp (r : Nat) (a b : List DV) : ArgLe (.c (.d (.rp r (a ++ b)))) (.c (.d (.rp r a)))
theorem ArgLe.rep {x y : Val} (h : ArgLe x y) {w : World} {C : Cz} {v : Value} (g : RepV w C v x) : RepV w C v y := by
  cases h with
  | same => exact g
  | rp r a b => exact .c _ _ (.d _ _ (repA_d (c_of g)).front)
inductive ArgsLe : List Val → List Val → Prop where
  | nil : ArgsLe [] []
  | cons {x y : Val} {l m : List Val} (h : ArgLe x y) (t : ArgsLe l m) : ArgsLe (x :: l) (y :: m)
theorem ArgsLe.rep {xs ys : List Val} (h : ArgsLe xs ys) : ∀ {w : World} {C : Cz} {vs : List Value}, RepVs w C vs xs → RepVs w C vs ys := by
  induction h with
  | nil => intro w C vs g; exact g
  | @cons x y l m h t ih =>
    intro w C vs g
    obtain ⟨g1, g2⟩ := g
    cases vs with
    | nil => simp at g1
    | cons v vs =>
      have := ih (w := w) (C := C) (vs := vs) ⟨by simpa using g1, fun i v x hv hx => g2 (i + 1) v x (by simpa using hv) (by simpa using hx)⟩
      refine ⟨by simpa using this.1, fun i u z hu hz => ?_⟩
      cases i with
      | zero => simp at hu hz; subst hu; subst hz; exact h.rep (g2 0 _ _ rfl rfl)
      | succ i => exact this.2 i u z (by simpa using hu) (by simpa using hz)
theorem ACall.args {P : Program} {f : FuncId} {xs ys : List Val} {σ : List AObj} {R : Out → List AObj → Prop} (h : ArgsLe xs ys) (c : ACall P f ys σ R) : ACall P f xs σ R :=
  ⟨fun w C vs hI hv => c.out w C vs hI (h.rep hv)⟩
end Go.Proofs.Ytdhkopangbgehaa.E
