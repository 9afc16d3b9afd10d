/- errors.As and errors.Is as calls over the engine's data. No conditions. -/
import Derived.Test.YthmbncehoblgpaaGreatDoorAs
import Derived.Test.YthmbncehoblgpaaGreatDoorEngX3
import Derived.Below
import Derived.OneCell
set_option linter.unusedVariables false
set_option linter.unusedSimpArgs false
namespace Go.Proofs.YthmbncehoblgpaaGreatDoor.E
open Go Go.RowKit

theorem two_vs {w : World} {C : Cz} {vs : Array Value} {x y : Val} (h : RepVs w C vs.toList [x, y]) : ∃ u v, vs = #[u, v] ∧ RepV w C u x ∧ RepV w C v y := by
  have hl : vs.size = 2 := by have := h.1; simpa using this
  obtain ⟨u, v, rfl⟩ : ∃ u v, vs = #[u, v] := by
    match vs, hl with
    | ⟨[u, v]⟩, _ => exact ⟨u, v, rfl⟩
  exact ⟨u, v, rfl, h.2 0 u x rfl rfl, h.2 1 v y rfl rfl⟩
theorem asN_call : ACall Tryz.prog 15 [.c (.d .nili), .c (.ifc 51 (.ptr 0 0))] [.var [.d .nilp]] (fun o σ => o = .ret (.c (.d (.bool false))) ∧ σ = [.var [.d .nilp]]) where
  out := fun w C vs hI hv => by
    obtain ⟨u, v, rfl, h1, h2⟩ := two_vs hv
    cases repA_d (c_of h1)
    refine (as_nil v w).mono fun e w' ⟨g1, g2⟩ => ?_
    subst g1; subst g2
    exact ⟨_, _, C, ⟨rfl, rfl⟩, hI, .refl _ _ _, _, rfl, .c _ _ (.d _ _ (.bool _))⟩
theorem as_call (cells : List DV) : ACall Tryz.prog 15 [.c (.d (.ifc 49 (.rp 0 cells))), .c (.ifc 51 (.ptr 0 0))] [.var [.d .nilp]]
    (fun o σ => o = .ret (.c (.d (.bool true))) ∧ σ = [.var [.d (.rp 0 cells)]]) where
  out := fun w C vs hI hv => by
    obtain ⟨u, v, rfl, h1, h2⟩ := two_vs hv
    cases repA_d (c_of h1) with
    | ifc _ u _ h1 =>
    cases (c_of h2) with
    | ifc _ v _ h2 =>
    cases h2 with
    | ptr _ _ b en he hr hb =>
    have hrp := h1
    cases h1 with
    | rp _ be oe _ cs e fz vs hrt hh hcell hrep =>
    obtain ⟨k1, b', ca, ty, k2, k3, k4⟩ := hI.ok 0 _ en rfl he
    rw [hb] at k2; cases k2
    obtain ⟨x, rfl⟩ : ∃ x, ca = #[x] := by
      have := k4.1
      match ca, this with
      | ⟨[x]⟩, _ => exact ⟨x, rfl⟩
    have hx := k4.2 0 x _ rfl rfl
    cases repA_d hx
    obtain ⟨hun, hblt⟩ := hI.unrg 0 _ en b rfl rfl he hb
    have hg := (hI.glb _ _ (List.mem_singleton.2 rfl)).2
    have hfz : w.frozen? ⟨b, 0, none⟩ = false := by simp [World.frozen?, k3]
    refine (as_hit ⟨be, oe, none⟩ ⟨b, 0, none⟩ (.pointer none) w hg (by simp [World.cell?, k3]) hfz).mono fun e1 w' ⟨g1, g2⟩ => ?_
    subst g1
    generalize hW : (((w.alloc _).alloc _).alloc _).alloc _ = W at g2
    have hWs : W.heap.size = w.heap.size + 4 := by rw [← hW]; simp
    have hWo : ∀ k, k < w.heap.size → W.heap[k]? = w.heap[k]? := fun k hk => by
      rw [← hW, alloc_old _ _ (by simp; omega), alloc_old _ _ (by simp; omega), alloc_old _ _ (by simp; omega), alloc_old _ _ hk]
    have hos : W.os = w.os ∧ W.tape = w.tape ∧ W.output = w.output := by rw [← hW]; exact ⟨rfl, rfl, rfl⟩
    have hs' : w'.heap.size = w.heap.size + 4 := by rw [g2]; simp [hWs]
    have hold : ∀ k, k < w.heap.size → en.b ≠ some k → w'.heap[k]? = w.heap[k]? := fun k hk hne => by
      rw [g2, Below.heap_setCell _ _ _ _ (fun e => hne (by rw [hb, e])), hWo k hk]
    have hnew : w'.heap[b]? = some (.cells #[.pointer (some ⟨be, oe, none⟩)] ty (0, 0)) := by
      rw [g2]
      exact one_setCell (by rw [hWo b hblt]; exact k3)
    obtain ⟨c1, i1⟩ := hI.upd (w' := w') (o' := .var [.d (.rp 0 cells)]) rfl he rfl (by omega) (.refl en) hold (fun b hb => .inl hb) (fun hle => ⟨k1, b, _, ty, hb, hnew, rfl, fun i v x hv hx => by
      match i with
      | 0 => simp at hv hx; subst hv; subst hx; exact .d _ _ (hrp.mono hle.rg)
      | i + 1 => simp at hv⟩)
    have x1 := Ext.upd (w' := w') hI (o' := .var [.d (.rp 0 cells)]) rfl he rfl (by rw [g2]; exact hos.1) (by rw [g2]; exact hos.2.1) (by rw [g2]; exact hos.2.2) (by omega) c1 hold (fun b hb => .inl hb)
    exact ⟨_, _, _, ⟨rfl, rfl⟩, i1, x1, _, rfl, .c _ _ (.d _ _ (.bool _))⟩
end Go.Proofs.YthmbncehoblgpaaGreatDoor.E
