/- From a law's walk to its row: parts for all rows. No conditions. -/
import Derived.Test.YtoglfnjankinnaaTyOpen
import Derived.WalkKit
import Derived.ProofKit
import Derived.OpenShut
import Derived.ChangeOld
import Derived.Below
import Derived.SizedLaws
import Derived.WideKeyArgs
namespace Go.Proofs.Ytoglfnjankinnaa.E
open Go Go.RowKit

theorem ty_val {w : World} {v : Value} {t : Ty} (h : Stand w v.cells.toList t.cells) : RepV w (czAll w) v t.val := by
  have hl := h.1
  rw [cells_len] at hl
  have key : ∀ arr : Array Value, Stand w arr.toList t.cells → RepV w (czAll w) (.agg arr) t.val := fun arr h =>
    .agg _ _ (RepL.ofD (C := czAll w) h.1 h.2)
  cases v <;> first | exact key _ h | (simp [Value.cells] at hl)

theorem rep2 {w : World} {C : Cz} {u v : Value} {x y : Val} (h : RepV w C u x) (g : RepV w C v y) : RepVs w C #[u, v].toList [x, y] := .cons h (.cons g ⟨rfl, fun i v x h => by simp at h⟩)
theorem rep1 {w : World} {C : Cz} {u : Value} {x : Val} (h : RepV w C u x) : RepVs w C #[u].toList [x] := .cons h ⟨rfl, fun i v x h => by simp at h⟩
theorem rep3 {w : World} {C : Cz} {u v z : Value} {x y q : Val} (h : RepV w C u x) (g : RepV w C v y) (k : RepV w C z q) : RepVs w C #[u, v, z].toList [x, y, q] := .cons h (.cons g (.cons k ⟨rfl, fun i v x h => by simp at h⟩))

theorem rep4 {w : World} {C : Cz} {u v z t : Value} {x y q s : Val} (h : RepV w C u x) (g : RepV w C v y) (k : RepV w C z q) (l : RepV w C t s) : RepVs w C #[u, v, z, t].toList [x, y, q, s] := .cons h (.cons g (.cons k (.cons l ⟨rfl, fun i v x h => by simp at h⟩)))

/-- A law that is true: as a call. -/
theorem law_true {P : Program} {f : FuncId} {args : List Val} (h : ACall P f args [] (fun o σ => o = .ret (.c (.d (.bool true))) ∧ σ = [])) {w : World} {vs : Array Value} (hv : RepVs w (czAll w) vs.toList args) :
    Calls P f vs w fun e w' => e = .returned (.bool true) ∧ Below w.heap.size w w' :=
  (h.out w (czAll w) vs (inv_all w) hv).mono fun e w' ⟨o, σ', C', ⟨ho, hs⟩, hI, hX, hO⟩ => by
    subst ho; subst hs
    obtain ⟨v, rfl, hr⟩ := hO
    have := bool_of hr
    subst this
    exact ⟨rfl, hX.os, hX.tape, hX.output, hX.size, fun k hk => hX.frame k hk (fun ⟨i, o, e, h, _⟩ => by simp at h)⟩
end Go.Proofs.Ytoglfnjankinnaa.E
