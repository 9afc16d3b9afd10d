/- The engine, part 23: functions with deferred calls; recover. No conditions. -/
import Derived.Test.YtdhkopangbgehaaEng22
set_option linter.unusedVariables false
set_option linter.unusedSimpArgs false
set_option linter.unusedSectionVars false
namespace Go.Proofs.Ytdhkopangbgehaa.E
open Go

section
variable {P : Program} {T : Tab} (HT : TabOk P T)

/-- How a body is being left: it returns, or dies of a panic (recovered or not). -/
inductive AMode where
  | ret
  | pan (a : AV) (rec : Bool)

def ModeOk (w : World) (C : Cz) : FrameMode → AMode → Prop
  | .returning, .ret => True
  | .panicking ch, .pan a r => ∃ v, ch = [{ v := v, recovered := r }] ∧ RepA w C v a
  | _, _ => False

/-- A deferred call, made while the body is being left as u tells. -/
structure ADef (P : Program) (f : FuncId) (args : List AV) (σ : List AObj) (u : AMode) (R : Out → AMode → List AObj → Prop) : Prop where
  out : ∀ (w : World) (C : Cz) (vs : Array Value) (um : FrameMode), Inv w C σ → RepL w C vs.toList args → ModeOk w C um u →
    CallsD P f vs um w fun e um' w' => ∃ o u' σ' C', R o u' σ' ∧ ModeOk w' C' um' u' ∧ Inv w' C' σ' ∧ Ext w C σ w' C' σ' ∧ OutOk w' C' e o

theorem ADef.mono {f : FuncId} {args : List AV} {σ : List AObj} {u : AMode} {R R' : Out → AMode → List AObj → Prop} (h : ADef P f args σ u R) (hr : ∀ o u' σ', R o u' σ' → R' o u' σ') : ADef P f args σ u R' :=
  ⟨fun w C vs um h1 h2 h3 => (h.out w C vs um h1 h2 h3).mono fun e um' w' ⟨o, u', σ', C', q, r⟩ => ⟨o, u', σ', C', hr _ _ _ q, r⟩⟩

def AMode.settle : AMode → AMode
  | .pan _ true => .ret
  | u => u

theorem settle_ok {w : World} {C : Cz} {um : FrameMode} {u : AMode} (h : ModeOk w C um u) : ModeOk w C (Go.settle um) u.settle := by
  cases um <;> cases u <;> try exact h.elim
  · exact h
  · rename_i ch a r
    obtain ⟨v, rfl, hr⟩ := h
    cases r
    · exact ⟨v, rfl, hr⟩
    · trivial

/-- The deferred calls are made, the newest first. -/
def aLeave (P : Program) (T : Tab) (ρ f : Nat) (rs : List ResultVar) (n : Nat) (R : Out → List AObj → Prop) : List Dfr → AMode → List (Nat × Val) → List AObj → Prop
  | [], u, env, σ => match u with
    | .ret => aResults T env σ rs (fun vs => aArgs ρ vs (T.rsl f) σ (fun ys σ' => aRet R n ys σ'))
    | .pan a false => frz1 ρ σ a none (fun d σ' => aPan R n (.d d) σ')
    | .pan _ true => False
  | d :: ds, u, env, σ => bif T.fok d.f then ADef P d.f d.args σ u (fun o u' σ' => match o with
      | .ret _ => aLeave P T ρ f rs n R ds u'.settle env σ'
      | .pan _ => False) else False

def afinD (P : Program) (T : Tab) (ρ f : Nat) (rs : List ResultVar) (n : Nat) (R : Out → List AObj → Prop) : AEx → St → Prop
  | .normal, ⟨_, env, σ, ds⟩ => aLeave P T ρ f rs n R ds .ret env σ
  | .ret, ⟨_, env, σ, ds⟩ => aLeave P T ρ f rs n R ds .ret env σ
  | .pan a, ⟨_, env, σ, ds⟩ => aLeave P T ρ f rs n R ds (.pan a false) env σ
  | .exit _, _ => False

theorem aPan_ok {w : World} {C : Cz} {σ : List AObj} (hI : Inv w C σ) {ρ n : Nat} {a : AV} {v : Value} (hr : RepA w C v a) {R : Out → List AObj → Prop} (hk : frz1 ρ σ a none (fun d σ' => aPan R n (.d d) σ')) {w0 : World} {C0 : Cz} {σ0 : List AObj} (hn : σ0.length = n)
    (h0 : C0.θ.length = σ0.length) (hX : Ext w0 C0 σ0 w C σ) : ∃ o σ' C', R o σ' ∧ Inv w C' σ' ∧ Ext w0 C0 σ0 w C' σ' ∧ OutOk w C' (.panicked [{ v := v, recovered := false }]) o := by
  subst hn
  obtain ⟨C2, d, σ2, q1, q2, q3, q4, q5⟩ := frz1_ok hI ρ hr hk
  unfold aPan at q1
  cases hb : ltB σ0.length (AV.d d).ids && closedN σ0.length (σ2.take σ0.length) && Nat.ble σ0.length σ2.length with
  | false => rw [hb] at q1; exact ⟨_, σ2, C2, q1, q3, hX.trans q4, v, rfl, .d _ _ q5⟩
  | true =>
    rw [hb] at q1
    simp only [Bool.and_eq_true] at hb
    obtain ⟨⟨b1, b2⟩, b3⟩ := hb
    have hle : σ0.length ≤ σ2.length := Nat.le_of_ble_eq_true b3
    have hl : (σ2.take σ0.length).length = σ0.length := by rw [List.length_take]; omega
    obtain ⟨t1, t2⟩ := trunc q3 (take_app σ2 σ0.length) (by rw [hl]; exact b2)
    exact ⟨_, _, _, q1, t1, t2 (by omega) (hX.trans q4) h0, v, rfl, .d _ _ q5⟩

include HT in
theorem leave_ok {ρ f nn : Nat} {fn : Func} {R : Out → List AObj → Prop} {w0 : World} {C0 : Cz} {σ0 : List AObj} (hnn : σ0.length = nn) (h0 : C0.θ.length = σ0.length) (tmps : Array Value) : ∀ (ds : List Dfr) (dd : List Deferred) (u : AMode) (um : FrameMode) {w : World} {C : Cz} {n : Nat} {env : List (Nat × Val)} {σ : List AObj},
    Inv w C σ → EnvOk w C { tmps := tmps, defers := dd } ⟨n, env, σ, ds⟩ → ModeOk w C um u → aLeave P T ρ f fn.results.toList nn R ds u env σ → Ext w0 C0 σ0 w C σ →
    Leaves P fn tmps (fun e w' => ∃ o σ' C', R o σ' ∧ Inv w' C' σ' ∧ Ext w0 C0 σ0 w' C' σ' ∧ OutOk w' C' e o) dd um w
  | [], dd, u, um, w, C, n, env, σ, hI, hE, hM, hk, hX => by
    have hd0 : dd = [] := List.eq_nil_of_length_eq_zero (by have := hE.dlen; simpa using this)
    subst hd0
    cases u with
    | ret =>
      cases um <;> try exact hM.elim
      simp only [aLeave] at hk
      obtain ⟨vs', us, k1, k2, k3⟩ := aResults_ok HT hI hE _ hk
      obtain ⟨C2, ys, σ2, q1, q2, q3, q4, q5⟩ := aArgs_ok ρ hI k3 k1
      exact ⟨_, results_run k2, aRet_ok q3 q1 (one_tuple q5) hnn h0 (hX.trans q4)⟩
    | pan a r =>
      cases um <;> try exact hM.elim
      obtain ⟨v, rfl, hr⟩ := hM
      cases r with
      | true => exact hk.elim
      | false => exact aPan_ok hI hr hk hnn h0 hX
  | d :: ds, dd, u, um, w, C, n, env, σ, hI, hE, hM, hk, hX => by
    cases dd with
    | nil => have := hE.dlen; simp at this
    | cons d0 dds =>
      simp only [aLeave] at hk
      cases hfk : T.fok d.f with
      | false => rw [hfk] at hk; exact hk.elim
      | true =>
        rw [hfk] at hk
        simp only [cond_true] at hk
        obtain ⟨cap, ht, hr⟩ := hE.ds 0 d0 d rfl rfl
        refine ⟨fun e => by subst e; cases u <;> exact hM.elim, .func d.f, cap, d.f, d0.args ++ cap, ht, ?_, ?_⟩
        · rw [ht]
          simpa [invoke] using HT.fok d.f hfk (d0.args ++ cap) w
        · refine (hk.out w C _ um hI hr hM).mono ?_
          rintro e um' w' ⟨o, u', σ', C', q1, q2, q3, q4, q5⟩
          cases o with
          | pan _ => exact q1.elim
          | ret x =>
            obtain ⟨v, rfl, hv⟩ := q5
            have hE' := hE.mono q4.le
            refine leave_ok hnn h0 tmps ds dds _ _ q3 (n := n) ⟨hE'.size, hE'.env, by have := hE'.dlen; simpa using this, fun i d x h1 h2 => hE'.ds (i + 1) d x (by simpa using h1) (by simpa using h2)⟩ (settle_ok q2) q1 (hX.trans q4)

include HT in
/-- A function with deferred calls: by its body, then by them. -/
theorem ACall.bodyD {ρ f : Nat} {fn : Func} {c : Code} {N : Nat} {E : List (Nat × Val)} {rs : List ResultVar} (hf : P.funcs[f]? = some fn) (hb : fn.body = some c) (hN : fn.ntmps = N) (hr : fn.results.toList = rs)
    {args : List Val} {σ : List AObj} {R : Out → List AObj → Prop} (he : env0 0 args = E) (hn : Nat.ble args.length N = true)
    (h : AW P T ρ c ⟨N, E, σ, []⟩ (afinD P T ρ f rs σ.length R)) : ACall P f args σ R :=
  ⟨fun w C vs hI hv => by
    subst hN; subst hr; subst he
    refine calls_of_wp_defers hf hb (wp_mono (h.out w C _ hI (start_env hv (Nat.le_of_ble_eq_true hn) σ)) ?_)
    rintro e a' w' ⟨x, ⟨n', env', σ', ds'⟩, C', hk, hx, hI', hE', hX⟩
    cases e <;> cases x <;> first | (exact hx.elim) | skip
    · exact leave_ok HT rfl hI.len a'.tmps ds' a'.defers .ret .returning hI' hE' trivial hk hX
    · exact hk.elim
    · exact leave_ok HT rfl hI.len a'.tmps ds' a'.defers .ret .returning hI' hE' trivial hk hX
    · obtain ⟨v, rfl, hr⟩ := hx
      exact leave_ok HT rfl hI.len a'.tmps ds' a'.defers (.pan _ false) _ hI' hE' ⟨v, rfl, hr⟩ hk hX⟩

/-! ### A deferred call that recovers first -/
def AMode.val : AMode → AV
  | .pan a false => a
  | _ => .d .nili
def AMode.caught : AMode → AMode
  | .pan a false => .pan a true
  | u => u

def afinU (T : Tab) (rs : List ResultVar) (u : AMode) (R : Out → AMode → List AObj → Prop) : AEx → St → Prop
  | .normal, ⟨_, env, σ, []⟩ => aResults T env σ rs (fun vs => R (.ret (oneOf vs)) u σ)
  | .ret, ⟨_, env, σ, []⟩ => aResults T env σ rs (fun vs => R (.ret (oneOf vs)) u σ)
  | .pan a, ⟨_, env, σ, []⟩ => R (.pan a) u σ
  | _, _ => False

theorem recoverD_ok {w : World} {C : Cz} {c0 : Frame} {cs : List Frame} {u : AMode} (h : ModeOk w C c0.mode u) :
    ∃ v um', ModeOk w C um' u.caught ∧ RepA w C v u.val ∧ (recoverD (c0 :: cs) = some (v, { c0 with mode := um' } :: cs) ∨ (recoverD (c0 :: cs) = none ∧ v = .nilIface ∧ um' = c0.mode)) := by
  cases hm : c0.mode with
  | run => rw [hm] at h; cases u <;> exact h.elim
  | returning =>
    rw [hm] at h
    cases u with
    | ret => exact ⟨.nilIface, .returning, trivial, .d _ _ .nili, .inr ⟨by simp [recoverD, hm], rfl, rfl⟩⟩
    | pan a r => exact h.elim
  | panicking ch =>
    rw [hm] at h
    cases u with
    | ret => exact h.elim
    | pan a r =>
      obtain ⟨v, rfl, hr⟩ := h
      cases r with
      | false => exact ⟨v, .panicking [{ v := v, recovered := true }], ⟨v, rfl, hr⟩, hr, .inl (by simp [recoverD, hm])⟩
      | true => exact ⟨.nilIface, .panicking [{ v := v, recovered := true }], ⟨v, rfl, hr⟩, .d _ _ .nili, .inr ⟨by simp [recoverD, hm], rfl, rfl⟩⟩

include HT in
theorem ADef.recover {ρ f : Nat} {fn : Func} {id : Nat} {o : Oper} {c : Code} {N d : Nat} {E : List (Nat × Val)} {rs : List ResultVar} (hf : P.funcs[f]? = some fn) (hb : fn.body = some (.seq (.region id #[o] false) c)) (hN : fn.ntmps = N) (hr : fn.results.toList = rs)
    (hop : o.op = .call { callee := .builtin .recover, args := #[], argTypes := #[] }) (hg : o.guard = none) (hd : o.dst = some d) (hdN : Nat.blt d N = true)
    {args : List AV} {σ : List AObj} {u : AMode} {R : Out → AMode → List AObj → Prop} (he : env0 0 (args.map .c) = E) (hn : Nat.ble args.length N = true)
    (h : AW P T ρ c ⟨N, (d, .c u.val) :: E, σ, []⟩ (afinU T rs u.caught R)) : ADef P f args σ u R :=
  ⟨fun w C vs um hI hv hM => by
    subst hN; subst hr; subst he
    refine callsD_of_wpS hf hb fun c0 cs hu => ?_
    refine wpS_seq (wpS_region ?_)
    have hst := start_env (fn := fn) (repL_vs hv) (by simpa using Nat.le_of_ble_eq_true hn) σ
    rw [← hu] at hM
    obtain ⟨v, um', m1, m2, m3⟩ := recoverD_ok (cs := cs) hM
    have hexec : (execOp (Act.eval { tmps := vs ++ Array.replicate (fn.ntmps - vs.size) undef, defers := [] }) o).run P w = .ok .recover w := by
      simp [execOp, hop, resolve, invoke, builtin]
    have hcs : ∀ (K : List Frame → Prop), K ({ c0 with mode := um' } :: cs) → (match recoverD (c0 :: cs) with
        | some (v', cs') => v' = v → K cs'
        | none => v = .nilIface → K (c0 :: cs)) := by
      intro K hK
      rcases m3 with m3 | ⟨m3, m4, m5⟩
      · rw [m3]; exact fun _ => hK
      · rw [m3]; subst m5; exact fun _ => hK
    have key : (c.wpS P (bodyPostS P fn c0 cs fun e um' w' => ∃ o u' σ' C', R o u' σ' ∧ ModeOk w' C' um' u' ∧ Inv w' C' σ' ∧ Ext w C σ w' C' σ' ∧ OutOk w' C' e o)
        (Act.put { tmps := vs ++ Array.replicate (fn.ntmps - vs.size) undef, defers := [] } o.dst v) ({ c0 with mode := um' } :: cs) w) := by
      refine wpS_of_wp (wp_mono (h.out w C _ hI (by rw [hd]; exact hst.put (S := start fn (args.map .c) σ) (blt_lt hdN) (.c _ _ m2))) ?_)
      rintro e a' w' ⟨x, ⟨n', env', σ', ds'⟩, C', hk, hx, hI', hE', hX⟩
      cases ds' with
      | cons _ _ => cases x <;> exact hk.elim
      | nil =>
      have hd0 : a'.defers = [] := List.eq_nil_of_length_eq_zero (by rw [hE'.dlen]; rfl)
      have m1' : ModeOk w' C' um' u.caught := by
        cases um' <;> cases hu' : u.caught <;> rw [hu'] at m1 <;> try exact m1.elim
        · trivial
        · obtain ⟨v, e, hr⟩ := m1
          exact ⟨v, e, hr.mono hX.le⟩
      have fin : aResults T env' σ' fn.results.toList (fun vs => R (.ret (oneOf vs)) u.caught σ') →
          a'.defers = [] ∧ ∃ u', ({ c0 with mode := um' } :: cs : List Frame) = { c0 with mode := u' } :: cs ∧ ∃ v, (results fn a'.tmps).run P w' = .ok v w' ∧
            ∃ o u'' σ' C', R o u'' σ' ∧ ModeOk w' C' u' u'' ∧ Inv w' C' σ' ∧ Ext w C σ w' C' σ' ∧ OutOk w' C' (.returned v) o := fun hk => by
        obtain ⟨vs', us, k1, k2, k3⟩ := aResults_ok HT hI' hE' _ hk
        exact ⟨hd0, um', rfl, _, results_run k2, _, _, σ', C', k1, m1', hI', hX, _, rfl, one_tuple k3⟩
      cases e <;> cases x <;> first | (exact hx.elim) | skip
      · exact fin hk
      · exact hk.elim
      · exact fin hk
      · obtain ⟨v, rfl, hr⟩ := hx
        exact ⟨hd0, um', rfl, _, _, σ', C', hk, m1', hI', hX, v, rfl, hr⟩
    show wpOpsS P #[o] _ [0] _ _ _
    unfold wpOpsS
    simp only [List.getElem?_toArray, List.getElem?_cons_zero]
    rw [if_pos (by simp [Region.wanted, hg])]
    rw [hexec]
    rcases m3 with m3 | ⟨m3, m4, m5⟩
    · simp only [m3]
      exact key
    · simp only [m3]
      subst m5
      rw [m4] at key
      exact key⟩

end
end Go.Proofs.Ytdhkopangbgehaa.E
