/- The engine, part 21: a drawn region by one order. No conditions. -/
import Derived.Test.YtdhkopangbgehaaEng20
set_option linter.unusedVariables false
set_option linter.unusedSimpArgs false
set_option linter.unusedSectionVars false
namespace Go.Proofs.Ytdhkopangbgehaa.E
open Go

section
variable {P : Program} {T : Tab} (HT : TabOk P T)
variable {ρ : Nat} {ops : Array Oper} {E0 : List (Nat × Val)} {w0 : World} {C0 : Cz} {σ0 : List AObj} {listed : Array Bool} {pend rest ap : List Nat} {n : Nat} {env : List (Nat × Val)} {σ : List AObj} {ds : List Dfr} {a : Act} {w : World} {C : Cz}

theorem wanted_of {E : List (Nat × Val)} (hE : EnvOk w C a ⟨n, E, σ, ds⟩) {o : Oper} {b : Bool} (h : wantA ops E o = some b) : Region.wanted o (yielded ops a.tmps) = b := by
  unfold wantA at h
  split at h
  · rename_i hg
    cases h
    simp [Region.wanted, hg]
  · rename_i j want hg
    split at h
    · cases h
    · rename_i g hd
      split at h
      · rename_i c hc
        cases h
        have := yielded_of hE hd hc
        simp only [Region.wanted, hg, this]
        cases c <;> cases want <;> rfl
      · rename_i hc
        cases h
        have := yielded_none hE hd hc
        simp [Region.wanted, hg, this]
      · cases h

/-- What a ready operation reads is not masked. -/
theorem Sim.reads (hA : Apart ops) (H : Sim P T ρ ops E0 w0 C0 σ0 listed pend rest ap n env σ ds a w C) {i : Nat} {o : Oper} (ho : ops[i]? = some o) (hb : ∀ m, m ∈ pend ∨ m ∈ rest → aft ops m i = false) :
    ∀ t ∈ reads ops o, get (mask ops pend env) t = get env t := by
  intro t ht
  rcases mask_get (ops := ops) (env := env) (t := t) (l := pend) with ⟨⟨j, h1, h2⟩, _⟩ | ⟨_, h3⟩
  · exfalso
    obtain ⟨oj, hoj, hd⟩ := dstOf_op h2
    rcases (hA j i oj o t hoj ho hd).2 ht with h4 | ⟨h4, _⟩
    · rw [hb j (.inl h1)] at h4; cases h4
    · rw [(H.pq j h1 oj hoj).1] at h4; cases h4
  · exact h3

theorem getD_set {l : Array Bool} {i j n : Nat} (hn : l.size = n) (hj : j < n) : (l.setIfInBounds i true).getD j true = if j = i then true else l.getD j true := by
  split
  · rename_i e; subst e
    simp [hn, hj]
  · rename_i e
    exact getD_set_ne true (Ne.symm e)

/-- What waited is done. -/
theorem Sim.pop (H : Sim P T ρ ops E0 w0 C0 σ0 listed pend rest ap n env σ ds a w C) {i : Nat} (hi : i ∈ pend) {o : Oper} (ho : ops[i]? = some o) {v : Val} (hv : ∀ d, o.dst = some d → get env d = v) {a' : Act} {w' : World} {C' : Cz}
    (hI : Inv w' C' σ) (hE : EnvOk w' C' a' ⟨n, putE (mask ops pend env) o.dst v, σ, ds⟩) (hX : Ext w C σ w' C' σ) : Sim P T ρ ops E0 w0 C0 σ0 (listed.setIfInBounds i true) (pend.erase i) rest ap n env σ ds a' w' C' := by
  have hnd := List.nodup_append.1 H.nd
  have hir : i ∉ rest := fun h => hnd.2.2 i hi i h rfl
  have hne : i ∉ pend.erase i := hnd.1.not_mem_erase
  refine ⟨by simp [H.size], fun j hj => ?_, fun j hj => H.lt j (hj.imp List.mem_of_mem_erase id), ?_, H.rsp, H.gd, hI, hE.weak fun t => ?_, H.hX.trans hX, fun j hj => H.pok j (List.mem_of_mem_erase hj), fun j hj => H.pq j (List.mem_of_mem_erase hj), H.cl, H.e0⟩
  · rw [getD_set H.size hj]
    split
    · rename_i e; subst e
      simp [hne, hir]
    · rename_i e
      rw [H.lst j hj, List.mem_erase_of_ne e]
  · exact List.nodup_append.2 ⟨hnd.1.erase i, hnd.2.1, fun x hx y hy => hnd.2.2 x (List.mem_of_mem_erase hx) y hy⟩
  · rcases mask_get (ops := ops) (env := env) (t := t) (l := pend.erase i) with ⟨_, h2⟩ | ⟨h1, h2⟩
    · exact .inl h2
    · right
      rw [h2, putE_get]
      split
      · rename_i e; exact hv t e
      · rename_i e
        rcases mask_get (ops := ops) (env := env) (t := t) (l := pend) with ⟨⟨j, h3, h4⟩, _⟩ | ⟨_, h3⟩
        · by_cases ej : j = i
          · subst ej
            rw [dstOf_some ho] at h4
            exact absurd h4 e
          · exact absurd h4 (h1 j ((List.mem_erase_of_ne ej).2 h3))
        · exact h3.symm

theorem EnvOk.putE {E : List (Nat × Val)} (h : EnvOk w C a ⟨n, E, σ, ds⟩) {d : Option Nat} (hd : ∀ x, d = some x → x < n) {v : Value} {x : Val} (hx : RepV w C v x) : EnvOk w C (a.put d v) ⟨n, _root_.Go.Proofs.Ytdhkopangbgehaa.E.putE E d x, σ, ds⟩ := by
  cases d with
  | none => exact h
  | some d => exact h.put (S := ⟨n, E, σ, ds⟩) (hd d rfl) hx

end
end Go.Proofs.Ytdhkopangbgehaa.E
