/- Walks: bare of terms in the document's answer; Bare, both. No conditions. -/
import Derived.Test.YtoglfnjankinnaaTm13
set_option linter.unusedVariables false
set_option linter.unusedSimpArgs false
namespace Go.Proofs.Ytoglfnjankinnaa.E
open Go

def tmBareS (t : Tm) : Tm := if tmcheck t = 0 then tmbare t else .node 0 ⟨#[]⟩ ⟨#[]⟩ 0 0 [] 0 [] 0 0 []
theorem tmcheck_ok {t : Tm} (h : tmcheck t = 0) : tmN t ≤ 8192 ∧ tmright t = true := by
  unfold tmcheck at h
  split at h
  · omega
  · split at h
    · omega
    · split at h
      · rename_i h3; exact ⟨by omega, h3⟩
      · omega
set_option maxRecDepth 10000 in
theorem Bare_call (t : Tm) : ACall Try.prog 34 [t.val] [] (fun o σ => o = .ret (tmBareS t).val ∧ σ = []) := by
  have c1 := tmCheck_call t
  have c2 : tmcheck t = 0 → ACall Try.prog 73 [.c (.d (.rp 0 t.cells))] [] (fun o σ => o = .ret (tmBareS t).val ∧ σ = []) := fun h => by
    rw [show tmBareS t = tmbare t by simp [tmBareS, h]]
    exact bare_call t (tmcheck_ok h).1 (tmcheck_ok h).2
  have e3 : tmcheck t ≠ 0 → tmBareS t = .node 0 ⟨#[]⟩ ⟨#[]⟩ 0 0 [] 0 [] 0 0 [] := fun h => by simp [tmBareS, h]
  generalize tmcheck t = cc at *
  generalize tmBareS t = m at *
  obtain ⟨k, name, arg, num, tk, tks, uk, uks, label, place, ks⟩ := t
  refine ACall.body tab_ok (ρ := 0) (N := 8) Try.func34 rfl rfl rfl rfl rfl ?_
  repeat' first
    | refine AW.seq ?_
    | refine AW.block ?_
    | (refine AW.region tab_ok ?_; conv => whnf)
    | (refine AW.cond ?_; conv => whnf)
    | (refine AW.skip ?_; conv => whnf)
    | (refine AW.ret ?_; conv => whnf)
    | (refine AW.exit ?_; conv => whnf)
    | (refine (c1).mono ?_; rintro _ _ ⟨rfl, rfl⟩; conv => whnf)
    | (refine And.intro (@rfl Val _) ?_; conv => whnf)
    | (refine And.intro (by decide) ?_; conv => whnf)
    | (refine cs (fun _ => ?_) (fun _ => ?_) <;> conv => whnf)
  · rename_i h
    rw [e3 (by simpa using h)]
    exact ⟨rfl, rfl⟩
  · rename_i h
    have c2 := c2 (by simpa using h)
    obtain ⟨kx, namex, argx, numx, tkx, tksx, ukx, uksx, labelx, placex, ksx⟩ := m
    refine c2.mono ?_
    rintro _ _ ⟨rfl, rfl⟩
    conv => whnf
    repeat' first
      | refine AW.seq ?_
      | refine AW.block ?_
      | (refine AW.region tab_ok ?_; conv => whnf)
      | (refine AW.cond ?_; conv => whnf)
      | (refine AW.skip ?_; conv => whnf)
      | (refine AW.ret ?_; conv => whnf)
      | (refine AW.exit ?_; conv => whnf)
      | (refine And.intro (@rfl Val _) ?_; conv => whnf)
      | (refine And.intro (by decide) ?_; conv => whnf)
      | (refine cs (fun _ => ?_) (fun _ => ?_) <;> conv => whnf)
    exact ⟨rfl, rfl⟩
theorem fine_bare (t : Tm) : tmN t ≤ 8192 → Fine (tmbare t) := by
  induction t using Tm.ind with
  | _ k name arg num tk tks uk uks label place ks ih =>
  intro hN
  have hlen := tmNL_len ks
  simp only [tmN] at hN
  simp only [tmbare]
  refine .node ?_ ?_ ?_ ?_
  · cases h : typeK k <;> simp_all [nodes, nodesL] <;> omega
  · cases h : toK k <;> simp_all [nodes, nodesL] <;> omega
  · rw [tmbares_len]; omega
  · intro x hx
    rw [tmbares_map] at hx
    obtain ⟨y, hy, rfl⟩ := List.mem_map.1 hx
    have := tmN_mem ks y hy
    exact ih y hy (by omega)
theorem fine_BareS (t : Tm) : Fine (tmBareS t) := by
  unfold tmBareS
  split
  · rename_i h
    exact fine_bare t (tmcheck_ok h).1
  · exact .node (by simp [nodes, nodesL]) (by simp [nodes, nodesL]) (by simp) (by simp)
end Go.Proofs.Ytoglfnjankinnaa.E
