/- The engine, part 25: a deferred call whose first region recovers first. No conditions. -/
import Derived.Test.YtdhkopangbgehaaEng24
set_option linter.unusedVariables false
set_option linter.unusedSimpArgs false
set_option linter.unusedSectionVars false
namespace Go.Proofs.Ytdhkopangbgehaa.E
open Go

section
variable {P : Program} {T : Tab} (HT : TabOk P T)

theorem upon_recover {o : Oper} {a : Act} {next : Act → World → Prop} {Q : Exit → Act → World → Prop} {w' : World} (h : o.upon P a next Q (.ok .recover w')) : False := by
  simp [Oper.upon] at h

include HT in
theorem arunS_ok (ρ : Nat) (ops : Array Oper) {cs : List Frame} {w0 : World} {C0 : Cz} {σ0 : List AObj} {K : St → Prop} {KP : AV → St → Prop} {Q : Exit → Act → List Frame → World → Prop}
    (hn : ∀ S' w' C' a', K S' → Inv w' C' S'.σ → EnvOk w' C' a' S' → Ext w0 C0 σ0 w' C' S'.σ → Q .normal a' cs w')
    (hp : ∀ v x S' w' C' a, KP x S' → Inv w' C' S'.σ → EnvOk w' C' a S' → Ext w0 C0 σ0 w' C' S'.σ → RepA w' C' v x → Q (.panic [{ v := v, recovered := false }]) a cs w') :
    ∀ (l : List Oper) (k : Nat), (∀ (i : Nat) o, l[i]? = some o → ops[k + i]? = some o ∧ o.guard = none) → ∀ {w : World} {C : Cz} {a : Act} {S : St} (hI : Inv w C S.σ) (hE : EnvOk w C a S) (hX : Ext w0 C0 σ0 w C S.σ) (hk : arun P T ρ ops l S K KP), wpOpsS P ops Q (List.range' k l.length) a cs w
  | [], k, _, w, C, a, S, hI, hE, hX, hk => hn S w C a hk hI hE hX
  | o :: r, k, hl, w, C, a, S, hI, hE, hX, hk => by
    have ho : ops[k]? = some o := (hl 0 o rfl).1
    have hgn : o.guard = none := (hl 0 o rfl).2
    have hl' : ∀ (i : Nat) o, r[i]? = some o → ops[k + 1 + i]? = some o ∧ o.guard = none := fun i o' h => by
      have := hl (i + 1) o' (by simpa using h)
      rw [show k + 1 + i = k + (i + 1) by omega]
      exact this
    rw [List.length_cons, List.range'_succ]
    unfold wpOpsS
    simp only [ho]
    have run : o.wp P a w (fun a' w' => wpOpsS P ops Q (List.range' (k + 1) r.length) a' cs w') (fun e a' w' => Q e a' cs w') →
        (match (execOp a.eval o).run P w with
        | .ok .recover w' => (match recoverD cs with
          | some (v, cs') => wpOpsS P ops Q (List.range' (k + 1) r.length) (a.put o.dst v) cs' w'
          | none => wpOpsS P ops Q (List.range' (k + 1) r.length) (a.put o.dst .nilIface) cs w')
        | r' => o.upon P a (fun a' w' => wpOpsS P ops Q (List.range' (k + 1) r.length) a' cs w') (fun e a' w' => Q e a' cs w') r') := by
      intro h
      unfold Oper.wp at h
      split
      · rename_i w' hr
        rw [hr] at h
        exact (upon_recover h).elim
      · exact h
    simp only [arun] at hk
    split at hk
    · rename_i hg
      rw [if_pos (by simp [Region.wanted, hg])]
      exact run (astep_ok HT ρ hI hE hX hk (fun S' w' C' a' h1 h2 h3 h4 => arunS_ok ρ ops hn hp r (k + 1) hl' h2 h3 h4 h1) (fun v x S' w' C' h1 h2 h3 h4 h5 => hp v x S' w' C' a h1 h2 h3 h4 h5))
    · rename_i j want hg
      rw [hgn] at hg; cases hg

def noGuard : List Oper → Bool
  | [] => true
  | o :: l => o.guard.isNone && noGuard l
theorem noGuard_mem : ∀ {l : List Oper}, noGuard l = true → ∀ o ∈ l, o.guard = none
  | [], _, o, ho => (List.not_mem_nil ho).elim
  | q :: l, h, o, ho => by
    rw [noGuard, Bool.and_eq_true] at h
    rcases List.mem_cons.1 ho with e | e
    · rw [e]; exact Option.isNone_iff_eq_none.1 h.1
    · exact noGuard_mem h.2 o e

include HT in
theorem ADef.recoverL {ρ f : Nat} {fn : Func} {id : Nat} {o : Oper} {l : List Oper} {ops : Array Oper} {c : Code} {N d : Nat} {E : List (Nat × Val)} {rs : List ResultVar} (hf : P.funcs[f]? = some fn) (hb : fn.body = some (.seq (.region id ops false) c)) (hops : ops.toList = o :: l) (hng : noGuard l = true) (hN : fn.ntmps = N) (hr : fn.results.toList = rs)
    (hop : o.op = .call { callee := .builtin .recover, args := #[], argTypes := #[] }) (hg : o.guard = none) (hd : o.dst = some d) (hdN : Nat.blt d N = true)
    {args : List AV} {σ : List AObj} {u : AMode} {R : Out → AMode → List AObj → Prop} (he : env0 0 (args.map .c) = E) (hn : Nat.ble args.length N = true)
    (h : arun P T ρ ops l ⟨N, (d, .c u.val) :: E, σ, []⟩ (fun S' => AW P T ρ c S' (afinU T rs u.caught R)) (fun _ _ => False)) : ADef P f args σ u R :=
  ⟨fun w C vs um hI hv hM => by
    subst hN; subst hr; subst he
    refine callsD_of_wpS hf hb fun c0 cs hu => ?_
    refine wpS_seq (wpS_region ?_)
    have hst := start_env (fn := fn) (repL_vs hv) (by simpa using Nat.le_of_ble_eq_true hn) σ
    rw [← hu] at hM
    obtain ⟨v, um', m1, m2, m3⟩ := recoverD_ok (cs := cs) hM
    have hexec : (execOp (Act.eval { tmps := vs ++ Array.replicate (fn.ntmps - vs.size) undef, defers := [] }) o).run P w = .ok .recover w := by
      simp [execOp, hop, resolve, invoke, builtin]
    have ho : ops[0]? = some o := by rw [← Array.getElem?_toList, hops]; rfl
    have hsz : ops.size = l.length + 1 := by rw [← Array.length_toList, hops]; rfl
    have hl : ∀ (i : Nat) q, l[i]? = some q → ops[1 + i]? = some q ∧ q.guard = none := fun i q hq => by
      refine ⟨?_, noGuard_mem hng q (List.mem_of_getElem? hq)⟩
      rw [← Array.getElem?_toList, hops, Nat.add_comm, List.getElem?_cons_succ]; exact hq
    have key : ∀ Qb, Qb = (bodyPostS P fn c0 cs fun e um' w' => ∃ o u' σ' C', R o u' σ' ∧ ModeOk w' C' um' u' ∧ Inv w' C' σ' ∧ Ext w C σ w' C' σ' ∧ OutOk w' C' e o) →
        wpOpsS P ops (Exit.thenS (c.wpS P Qb) Qb) (List.range' 1 l.length) (Act.put { tmps := vs ++ Array.replicate (fn.ntmps - vs.size) undef, defers := [] } o.dst v) ({ c0 with mode := um' } :: cs) w := by
      rintro Qb rfl
      refine arunS_ok HT ρ ops (w0 := w) (C0 := C) (σ0 := σ) (fun S' w1 C1 a1 hA h2 h3 h4 => ?_) (fun v x S' w' C' a hA _ _ _ _ => hA.elim) l 1 hl hI (by rw [hd]; exact hst.put (S := start fn (args.map .c) σ) (blt_lt hdN) (.c _ _ m2)) (.refl w C σ) h
      refine wpS_of_wp (wp_mono (hA.out w1 C1 a1 h2 h3) ?_)
      rintro e a' w' ⟨x, ⟨n', env', σ', ds'⟩, C', hk, hx, hI', hE', hX1⟩
      have hX := h4.trans hX1
      cases ds' with
      | cons _ _ => cases x <;> exact hk.elim
      | nil =>
      have hd0 : a'.defers = [] := List.eq_nil_of_length_eq_zero (by rw [hE'.dlen]; rfl)
      have m1' : ModeOk w' C' um' u.caught := by
        cases um' <;> cases hu' : u.caught <;> rw [hu'] at m1 <;> try exact m1.elim
        · trivial
        · obtain ⟨v, e, hr⟩ := m1
          exact ⟨v, e, hr.mono hX.le⟩
      have fin : aResults T env' σ' fn.results.toList (fun vs => R (.ret (oneOf vs)) u.caught σ') →
          a'.defers = [] ∧ ∃ u', ({ c0 with mode := um' } :: cs : List Frame) = { c0 with mode := u' } :: cs ∧ ∃ v, (results fn a'.tmps).run P w' = .ok v w' ∧
            ∃ o u'' σ' C', R o u'' σ' ∧ ModeOk w' C' u' u'' ∧ Inv w' C' σ' ∧ Ext w C σ w' C' σ' ∧ OutOk w' C' (.returned v) o := fun hk => by
        obtain ⟨vs', us, k1, k2, k3⟩ := aResults_ok HT hI' hE' _ hk
        exact ⟨hd0, um', rfl, _, results_run k2, _, _, σ', C', k1, m1', hI', hX, _, rfl, one_tuple k3⟩
      cases e <;> cases x <;> first | (exact hx.elim) | skip
      · exact fin hk
      · exact hk.elim
      · exact fin hk
      · obtain ⟨v, rfl, hr⟩ := hx
        exact ⟨hd0, um', rfl, _, _, σ', C', hk, m1', hI', hX, v, rfl, hr⟩
    rw [hsz, List.range_eq_range', List.range'_succ]
    unfold wpOpsS
    simp only [ho]
    rw [if_pos (by simp [Region.wanted, hg])]
    rw [hexec]
    rcases m3 with m3 | ⟨m3, m4, m5⟩
    · simp only [m3]
      exact key _ rfl
    · simp only [m3]
      subst m5
      have key := key _ rfl
      rw [m4] at key
      exact key⟩

end
end Go.Proofs.Ytdhkopangbgehaa.E
