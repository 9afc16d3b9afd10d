/- The engine's texts, merged (3 of 3): data for values, objects, contracts of calls, rules for the code. No conditions. -/
import Derived.Test.YtoglfnjankinnaaEngX2
/- The engine, part 23: functions with deferred calls; recover. No conditions. -/
set_option linter.unusedVariables false
set_option linter.unusedSimpArgs false
set_option linter.unusedSectionVars false
namespace Go.Proofs.Ytoglfnjankinnaa.E
open Go

section
variable {P : Program} {T : Tab} (HT : TabOk P T)

/-- How a body is being left: it returns, or dies of a panic (recovered or not). -/
inductive AMode where
  | ret
  | pan (a : AV) (rec : Bool)

def ModeOk (w : World) (C : Cz) : FrameMode → AMode → Prop
  | .returning, .ret => True
  | .panicking ch, .pan a r => ∃ v, ch = [{ v := v, recovered := r }] ∧ RepA w C v a
  | _, _ => False

/-- A deferred call, made while the body is being left as u tells. -/
structure ADef (P : Program) (f : FuncId) (args : List AV) (σ : List AObj) (u : AMode) (R : Out → AMode → List AObj → Prop) : Prop where
  out : ∀ (w : World) (C : Cz) (vs : Array Value) (um : FrameMode), Inv w C σ → RepL w C vs.toList args → ModeOk w C um u →
    CallsD P f vs um w fun e um' w' => ∃ o u' σ' C', R o u' σ' ∧ ModeOk w' C' um' u' ∧ Inv w' C' σ' ∧ Ext w C σ w' C' σ' ∧ OutOk w' C' e o

theorem ADef.mono {f : FuncId} {args : List AV} {σ : List AObj} {u : AMode} {R R' : Out → AMode → List AObj → Prop} (h : ADef P f args σ u R) (hr : ∀ o u' σ', R o u' σ' → R' o u' σ') : ADef P f args σ u R' :=
  ⟨fun w C vs um h1 h2 h3 => (h.out w C vs um h1 h2 h3).mono fun e um' w' ⟨o, u', σ', C', q, r⟩ => ⟨o, u', σ', C', hr _ _ _ q, r⟩⟩

def AMode.settle : AMode → AMode
  | .pan _ true => .ret
  | u => u

theorem settle_ok {w : World} {C : Cz} {um : FrameMode} {u : AMode} (h : ModeOk w C um u) : ModeOk w C (Go.settle um) u.settle := by
  cases um <;> cases u <;> try exact h.elim
  · exact h
  · rename_i ch a r
    obtain ⟨v, rfl, hr⟩ := h
    cases r
    · exact ⟨v, rfl, hr⟩
    · trivial

/-- The deferred calls are made, the newest first. -/
def aLeave (P : Program) (T : Tab) (ρ f : Nat) (rs : List ResultVar) (n : Nat) (R : Out → List AObj → Prop) : List Dfr → AMode → List (Nat × Val) → List AObj → Prop
  | [], u, env, σ => match u with
    | .ret => aResults T env σ rs (fun vs => aArgs ρ vs (T.rsl f) σ (fun ys σ' => aRet R n ys σ'))
    | .pan a false => frz1 ρ σ a none (fun d σ' => aPan R n (.d d) σ')
    | .pan _ true => False
  | d :: ds, u, env, σ => bif T.fok d.f then ADef P d.f d.args σ u (fun o u' σ' => match o with
      | .ret _ => aLeave P T ρ f rs n R ds u'.settle env σ'
      | .pan _ => False) else False

def afinD (P : Program) (T : Tab) (ρ f : Nat) (rs : List ResultVar) (n : Nat) (R : Out → List AObj → Prop) : AEx → St → Prop
  | .normal, ⟨_, env, σ, ds⟩ => aLeave P T ρ f rs n R ds .ret env σ
  | .ret, ⟨_, env, σ, ds⟩ => aLeave P T ρ f rs n R ds .ret env σ
  | .pan a, ⟨_, env, σ, ds⟩ => aLeave P T ρ f rs n R ds (.pan a false) env σ
  | .exit _, _ => False

theorem aPan_ok {w : World} {C : Cz} {σ : List AObj} (hI : Inv w C σ) {ρ n : Nat} {a : AV} {v : Value} (hr : RepA w C v a) {R : Out → List AObj → Prop} (hk : frz1 ρ σ a none (fun d σ' => aPan R n (.d d) σ')) {w0 : World} {C0 : Cz} {σ0 : List AObj} (hn : σ0.length = n)
    (h0 : C0.θ.length = σ0.length) (hX : Ext w0 C0 σ0 w C σ) : ∃ o σ' C', R o σ' ∧ Inv w C' σ' ∧ Ext w0 C0 σ0 w C' σ' ∧ OutOk w C' (.panicked [{ v := v, recovered := false }]) o := by
  subst hn
  obtain ⟨C2, d, σ2, q1, q2, q3, q4, q5⟩ := frz1_ok hI ρ hr hk
  unfold aPan at q1
  cases hb : ltB σ0.length (AV.d d).ids && closedN σ0.length (σ2.take σ0.length) && Nat.ble σ0.length σ2.length with
  | false => rw [hb] at q1; exact ⟨_, σ2, C2, q1, q3, hX.trans q4, v, rfl, .d _ _ q5⟩
  | true =>
    rw [hb] at q1
    simp only [Bool.and_eq_true] at hb
    obtain ⟨⟨b1, b2⟩, b3⟩ := hb
    have hle : σ0.length ≤ σ2.length := Nat.le_of_ble_eq_true b3
    have hl : (σ2.take σ0.length).length = σ0.length := by rw [List.length_take]; omega
    obtain ⟨t1, t2⟩ := trunc q3 (take_app σ2 σ0.length) (by rw [hl]; exact b2)
    exact ⟨_, _, _, q1, t1, t2 (by omega) (hX.trans q4) h0, v, rfl, .d _ _ q5⟩

include HT in
theorem leave_ok {ρ f nn : Nat} {fn : Func} {R : Out → List AObj → Prop} {w0 : World} {C0 : Cz} {σ0 : List AObj} (hnn : σ0.length = nn) (h0 : C0.θ.length = σ0.length) (tmps : Array Value) : ∀ (ds : List Dfr) (dd : List Deferred) (u : AMode) (um : FrameMode) {w : World} {C : Cz} {n : Nat} {env : List (Nat × Val)} {σ : List AObj},
    Inv w C σ → EnvOk w C { tmps := tmps, defers := dd } ⟨n, env, σ, ds⟩ → ModeOk w C um u → aLeave P T ρ f fn.results.toList nn R ds u env σ → Ext w0 C0 σ0 w C σ →
    Leaves P fn tmps (fun e w' => ∃ o σ' C', R o σ' ∧ Inv w' C' σ' ∧ Ext w0 C0 σ0 w' C' σ' ∧ OutOk w' C' e o) dd um w
  | [], dd, u, um, w, C, n, env, σ, hI, hE, hM, hk, hX => by
    have hd0 : dd = [] := List.eq_nil_of_length_eq_zero (by have := hE.dlen; simpa using this)
    subst hd0
    cases u with
    | ret =>
      cases um <;> try exact hM.elim
      simp only [aLeave] at hk
      obtain ⟨vs', us, k1, k2, k3⟩ := aResults_ok HT hI hE _ hk
      obtain ⟨C2, ys, σ2, q1, q2, q3, q4, q5⟩ := aArgs_ok ρ hI k3 k1
      exact ⟨_, results_run k2, aRet_ok q3 q1 (one_tuple q5) hnn h0 (hX.trans q4)⟩
    | pan a r =>
      cases um <;> try exact hM.elim
      obtain ⟨v, rfl, hr⟩ := hM
      cases r with
      | true => exact hk.elim
      | false => exact aPan_ok hI hr hk hnn h0 hX
  | d :: ds, dd, u, um, w, C, n, env, σ, hI, hE, hM, hk, hX => by
    cases dd with
    | nil => have := hE.dlen; simp at this
    | cons d0 dds =>
      simp only [aLeave] at hk
      cases hfk : T.fok d.f with
      | false => rw [hfk] at hk; exact hk.elim
      | true =>
        rw [hfk] at hk
        simp only [cond_true] at hk
        obtain ⟨cap, ht, hr⟩ := hE.ds 0 d0 d rfl rfl
        refine ⟨fun e => by subst e; cases u <;> exact hM.elim, .func d.f, cap, d.f, d0.args ++ cap, ht, ?_, ?_⟩
        · rw [ht]
          simpa [invoke] using HT.fok d.f hfk (d0.args ++ cap) w
        · refine (hk.out w C _ um hI hr hM).mono ?_
          rintro e um' w' ⟨o, u', σ', C', q1, q2, q3, q4, q5⟩
          cases o with
          | pan _ => exact q1.elim
          | ret x =>
            obtain ⟨v, rfl, hv⟩ := q5
            have hE' := hE.mono q4.le
            refine leave_ok hnn h0 tmps ds dds _ _ q3 (n := n) ⟨hE'.size, hE'.env, by have := hE'.dlen; simpa using this, fun i d x h1 h2 => hE'.ds (i + 1) d x (by simpa using h1) (by simpa using h2)⟩ (settle_ok q2) q1 (hX.trans q4)

include HT in
/-- A function with deferred calls: by its body, then by them. -/
theorem ACall.bodyD {ρ f : Nat} {fn : Func} {c : Code} {N : Nat} {E : List (Nat × Val)} {rs : List ResultVar} (hf : P.funcs[f]? = some fn) (hb : fn.body = some c) (hN : fn.ntmps = N) (hr : fn.results.toList = rs)
    {args : List Val} {σ : List AObj} {R : Out → List AObj → Prop} (he : env0 0 args = E) (hn : Nat.ble args.length N = true)
    (h : AW P T ρ c ⟨N, E, σ, []⟩ (afinD P T ρ f rs σ.length R)) : ACall P f args σ R :=
  ⟨fun w C vs hI hv => by
    subst hN; subst hr; subst he
    refine calls_of_wp_defers hf hb (wp_mono (h.out w C _ hI (start_env hv (Nat.le_of_ble_eq_true hn) σ)) ?_)
    rintro e a' w' ⟨x, ⟨n', env', σ', ds'⟩, C', hk, hx, hI', hE', hX⟩
    cases e <;> cases x <;> first | (exact hx.elim) | skip
    · exact leave_ok HT rfl hI.len a'.tmps ds' a'.defers .ret .returning hI' hE' trivial hk hX
    · exact hk.elim
    · exact leave_ok HT rfl hI.len a'.tmps ds' a'.defers .ret .returning hI' hE' trivial hk hX
    · obtain ⟨v, rfl, hr⟩ := hx
      exact leave_ok HT rfl hI.len a'.tmps ds' a'.defers (.pan _ false) _ hI' hE' ⟨v, rfl, hr⟩ hk hX⟩

/-! ### A deferred call that recovers first -/
def AMode.val : AMode → AV
  | .pan a false => a
  | _ => .d .nili
def AMode.caught : AMode → AMode
  | .pan a false => .pan a true
  | u => u

def afinU (T : Tab) (rs : List ResultVar) (u : AMode) (R : Out → AMode → List AObj → Prop) : AEx → St → Prop
  | .normal, ⟨_, env, σ, []⟩ => aResults T env σ rs (fun vs => R (.ret (oneOf vs)) u σ)
  | .ret, ⟨_, env, σ, []⟩ => aResults T env σ rs (fun vs => R (.ret (oneOf vs)) u σ)
  | .pan a, ⟨_, env, σ, []⟩ => R (.pan a) u σ
  | _, _ => False

theorem recoverD_ok {w : World} {C : Cz} {c0 : Frame} {cs : List Frame} {u : AMode} (h : ModeOk w C c0.mode u) :
    ∃ v um', ModeOk w C um' u.caught ∧ RepA w C v u.val ∧ (recoverD (c0 :: cs) = some (v, { c0 with mode := um' } :: cs) ∨ (recoverD (c0 :: cs) = none ∧ v = .nilIface ∧ um' = c0.mode)) := by
  cases hm : c0.mode with
  | run => rw [hm] at h; cases u <;> exact h.elim
  | returning =>
    rw [hm] at h
    cases u with
    | ret => exact ⟨.nilIface, .returning, trivial, .d _ _ .nili, .inr ⟨by simp [recoverD, hm], rfl, rfl⟩⟩
    | pan a r => exact h.elim
  | panicking ch =>
    rw [hm] at h
    cases u with
    | ret => exact h.elim
    | pan a r =>
      obtain ⟨v, rfl, hr⟩ := h
      cases r with
      | false => exact ⟨v, .panicking [{ v := v, recovered := true }], ⟨v, rfl, hr⟩, hr, .inl (by simp [recoverD, hm])⟩
      | true => exact ⟨.nilIface, .panicking [{ v := v, recovered := true }], ⟨v, rfl, hr⟩, .d _ _ .nili, .inr ⟨by simp [recoverD, hm], rfl, rfl⟩⟩

include HT in
theorem ADef.recover {ρ f : Nat} {fn : Func} {id : Nat} {o : Oper} {c : Code} {N d : Nat} {E : List (Nat × Val)} {rs : List ResultVar} (hf : P.funcs[f]? = some fn) (hb : fn.body = some (.seq (.region id #[o] false) c)) (hN : fn.ntmps = N) (hr : fn.results.toList = rs)
    (hop : o.op = .call { callee := .builtin .recover, args := #[], argTypes := #[] }) (hg : o.guard = none) (hd : o.dst = some d) (hdN : Nat.blt d N = true)
    {args : List AV} {σ : List AObj} {u : AMode} {R : Out → AMode → List AObj → Prop} (he : env0 0 (args.map .c) = E) (hn : Nat.ble args.length N = true)
    (h : AW P T ρ c ⟨N, (d, .c u.val) :: E, σ, []⟩ (afinU T rs u.caught R)) : ADef P f args σ u R :=
  ⟨fun w C vs um hI hv hM => by
    subst hN; subst hr; subst he
    refine callsD_of_wpS hf hb fun c0 cs hu => ?_
    refine wpS_seq (wpS_region ?_)
    have hst := start_env (fn := fn) (repL_vs hv) (by simpa using Nat.le_of_ble_eq_true hn) σ
    rw [← hu] at hM
    obtain ⟨v, um', m1, m2, m3⟩ := recoverD_ok (cs := cs) hM
    have hexec : (execOp (Act.eval { tmps := vs ++ Array.replicate (fn.ntmps - vs.size) undef, defers := [] }) o).run P w = .ok .recover w := by
      simp [execOp, hop, resolve, invoke, builtin]
    have hcs : ∀ (K : List Frame → Prop), K ({ c0 with mode := um' } :: cs) → (match recoverD (c0 :: cs) with
        | some (v', cs') => v' = v → K cs'
        | none => v = .nilIface → K (c0 :: cs)) := by
      intro K hK
      rcases m3 with m3 | ⟨m3, m4, m5⟩
      · rw [m3]; exact fun _ => hK
      · rw [m3]; subst m5; exact fun _ => hK
    have key : (c.wpS P (bodyPostS P fn c0 cs fun e um' w' => ∃ o u' σ' C', R o u' σ' ∧ ModeOk w' C' um' u' ∧ Inv w' C' σ' ∧ Ext w C σ w' C' σ' ∧ OutOk w' C' e o)
        (Act.put { tmps := vs ++ Array.replicate (fn.ntmps - vs.size) undef, defers := [] } o.dst v) ({ c0 with mode := um' } :: cs) w) := by
      refine wpS_of_wp (wp_mono (h.out w C _ hI (by rw [hd]; exact hst.put (S := start fn (args.map .c) σ) (blt_lt hdN) (.c _ _ m2))) ?_)
      rintro e a' w' ⟨x, ⟨n', env', σ', ds'⟩, C', hk, hx, hI', hE', hX⟩
      cases ds' with
      | cons _ _ => cases x <;> exact hk.elim
      | nil =>
      have hd0 : a'.defers = [] := List.eq_nil_of_length_eq_zero (by rw [hE'.dlen]; rfl)
      have m1' : ModeOk w' C' um' u.caught := by
        cases um' <;> cases hu' : u.caught <;> rw [hu'] at m1 <;> try exact m1.elim
        · trivial
        · obtain ⟨v, e, hr⟩ := m1
          exact ⟨v, e, hr.mono hX.le⟩
      have fin : aResults T env' σ' fn.results.toList (fun vs => R (.ret (oneOf vs)) u.caught σ') →
          a'.defers = [] ∧ ∃ u', ({ c0 with mode := um' } :: cs : List Frame) = { c0 with mode := u' } :: cs ∧ ∃ v, (results fn a'.tmps).run P w' = .ok v w' ∧
            ∃ o u'' σ' C', R o u'' σ' ∧ ModeOk w' C' u' u'' ∧ Inv w' C' σ' ∧ Ext w C σ w' C' σ' ∧ OutOk w' C' (.returned v) o := fun hk => by
        obtain ⟨vs', us, k1, k2, k3⟩ := aResults_ok HT hI' hE' _ hk
        exact ⟨hd0, um', rfl, _, results_run k2, _, _, σ', C', k1, m1', hI', hX, _, rfl, one_tuple k3⟩
      cases e <;> cases x <;> first | (exact hx.elim) | skip
      · exact fin hk
      · exact hk.elim
      · exact fin hk
      · obtain ⟨v, rfl, hr⟩ := hx
        exact ⟨hd0, um', rfl, _, _, σ', C', hk, m1', hI', hX, v, rfl, hr⟩
    show wpOpsS P #[o] _ [0] _ _ _
    unfold wpOpsS
    simp only [List.getElem?_toArray, List.getElem?_cons_zero]
    rw [if_pos (by simp [Region.wanted, hg])]
    rw [hexec]
    rcases m3 with m3 | ⟨m3, m4, m5⟩
    · simp only [m3]
      exact key
    · simp only [m3]
      subst m5
      rw [m4] at key
      exact key⟩

end
end Go.Proofs.Ytoglfnjankinnaa.E

/- The engine, part 24: a nil slice that is to grow is an own row of no elements. No conditions. -/
set_option linter.unusedVariables false
set_option linter.unusedSimpArgs false
set_option linter.unusedSectionVars false
namespace Go.Proofs.Ytoglfnjankinnaa.E
open Go

section
variable {P : Program} {T : Tab}

theorem nils_val {w : World} {C : Cz} {v : Value} (h : RepA w C v (.d .nils)) : v = .slice none 0 0 := by
  have h := repA_d h
  cases h; rfl

/-- In a variable. -/
theorem AW.ghost {ρ : Nat} {c : Code} {n : Nat} {env : List (Nat × Val)} {σ : List AObj} {ds : List Dfr} {K : AEx → St → Prop} (e sz o off : Nat) (hz : 0 < sz) {cells : List AV} (ho : σ[o]? = some (.var cells)) (hc : cells[off]? = some (.d .nils))
    (h : AW P T ρ c ⟨n, env, σ.set o (.var (cells.set off (.own σ.length 0))) ++ [.row e sz []], ds⟩ K) : AW P T ρ c ⟨n, env, σ, ds⟩ K :=
  ⟨fun w C a hI hE => by
    obtain ⟨C1, I1, E1, r1, l1⟩ := nil_row (e := e) hI hz
    have hlt : o < σ.length := (List.getElem?_eq_some_iff.1 ho).1
    have ho1 : (σ ++ [.row e sz []])[o]? = some (.var cells) := by rw [List.getElem?_append_left hlt]; exact ho
    obtain ⟨en, he⟩ : ∃ en, C1.θ[o]? = some en := ⟨_, List.getElem?_eq_getElem (by rw [I1.len]; simp; omega)⟩
    obtain ⟨k1, b, cs, ty, k2, k3, k4⟩ := I1.ok o _ en ho1 he
    obtain ⟨c1, i1⟩ := I1.upd (w' := w) (o' := .var (cells.set off (.own σ.length 0))) ho1 he rfl (Nat.le_refl _) (.refl en) (fun _ _ _ => rfl) (fun b hb => .inl hb) (fun hle => ⟨k1, b, cs, ty, k2, k3, by
      refine ⟨by simp [k4.1], fun i v x hv hx => ?_⟩
      rcases set_get _ _ _ _ _ hx with ⟨e1, rfl⟩ | ⟨e1, e2⟩
      · subst e1
        have := nils_val (k4.2 off v _ hv hc)
        subst this
        exact r1.mono hle
      · exact (k4.2 i v x hv e2).mono hle⟩)
    have x1 := Ext.upd (w' := w) I1 (o' := .var (cells.set off (.own σ.length 0))) ho1 he rfl rfl rfl rfl (Nat.le_refl _) c1 (fun _ _ _ => rfl) (fun b hb => .inl hb)
    rw [List.set_append_left o _ hlt] at i1 x1
    have hE2 := (hE.mono l1).mono c1
    refine wp_mono (h.out w _ a i1 ⟨hE2.size, hE2.env, hE2.dlen, hE2.ds⟩) ?_
    rintro ex a' w' ⟨x, S', C', q1, q2, q3, q4, q5⟩
    exact ⟨x, S', C', q1, q2, q3, q4, (E1.trans x1).trans q5⟩⟩

/-- In a slot. -/
theorem AW.ghostE {ρ : Nat} {c : Code} {n : Nat} {env : List (Nat × Val)} {σ : List AObj} {ds : List Dfr} {K : AEx → St → Prop} (e sz t : Nat) (hz : 0 < sz) (ht : get env t = .c (.d .nils))
    (h : AW P T ρ c ⟨n, (t, .c (.own σ.length 0)) :: env, σ ++ [.row e sz []], ds⟩ K) : AW P T ρ c ⟨n, env, σ, ds⟩ K :=
  ⟨fun w C a hI hE => by
    obtain ⟨C1, I1, E1, r1, l1⟩ := nil_row (e := e) hI hz
    have hE2 := hE.mono l1
    refine wp_mono (h.out w _ a I1 ⟨hE2.size, fun s => ?_, hE2.dlen, hE2.ds⟩) ?_
    · simp only [get_cons]
      split
      · rename_i es
        subst es
        have := hE2.env t
        simp only [ht] at this
        have := nils_val (c_of this)
        rw [this]
        exact .c _ _ r1
      · exact hE2.env s
    · rintro ex a' w' ⟨x, S', C', q1, q2, q3, q4, q5⟩
      exact ⟨x, S', C', q1, q2, q3, q4, E1.trans q5⟩⟩

/-- From a state that tells less. -/
theorem AW.fits {ρ : Nat} {c : Code} {S I : St} {K : AEx → St → Prop} (hf : Fits S I) (hl : Nat.ble S.σ.length I.σ.length = true) (h : AW P T ρ c I K) : AW P T ρ c S K :=
  ⟨fun w C a hI hE => by
    obtain ⟨C1, i1, e1, x1⟩ := hf.ok hI hE
    have X := x1 (Nat.le_of_ble_eq_true hl) hI.len (.refl w C S.σ)
    refine wp_mono (h.out w C1 a i1 e1) ?_
    rintro ex a' w' ⟨x, S', C', q1, q2, q3, q4, q5⟩
    exact ⟨x, S', C', q1, q2, q3, q4, X.trans q5⟩⟩

end
end Go.Proofs.Ytoglfnjankinnaa.E

/- The engine, part 25: a deferred call whose first region recovers first. No conditions. -/
set_option linter.unusedVariables false
set_option linter.unusedSimpArgs false
set_option linter.unusedSectionVars false
namespace Go.Proofs.Ytoglfnjankinnaa.E
open Go

section
variable {P : Program} {T : Tab} (HT : TabOk P T)

theorem upon_recover {o : Oper} {a : Act} {next : Act → World → Prop} {Q : Exit → Act → World → Prop} {w' : World} (h : o.upon P a next Q (.ok .recover w')) : False := by
  simp [Oper.upon] at h

include HT in
theorem arunS_ok (ρ : Nat) (ops : Array Oper) {cs : List Frame} {w0 : World} {C0 : Cz} {σ0 : List AObj} {K : St → Prop} {KP : AV → St → Prop} {Q : Exit → Act → List Frame → World → Prop}
    (hn : ∀ S' w' C' a', K S' → Inv w' C' S'.σ → EnvOk w' C' a' S' → Ext w0 C0 σ0 w' C' S'.σ → Q .normal a' cs w')
    (hp : ∀ v x S' w' C' a, KP x S' → Inv w' C' S'.σ → EnvOk w' C' a S' → Ext w0 C0 σ0 w' C' S'.σ → RepA w' C' v x → Q (.panic [{ v := v, recovered := false }]) a cs w') :
    ∀ (l : List Oper) (k : Nat), (∀ (i : Nat) o, l[i]? = some o → ops[k + i]? = some o ∧ o.guard = none) → ∀ {w : World} {C : Cz} {a : Act} {S : St} (hI : Inv w C S.σ) (hE : EnvOk w C a S) (hX : Ext w0 C0 σ0 w C S.σ) (hk : arun P T ρ ops l S K KP), wpOpsS P ops Q (List.range' k l.length) a cs w
  | [], k, _, w, C, a, S, hI, hE, hX, hk => hn S w C a hk hI hE hX
  | o :: r, k, hl, w, C, a, S, hI, hE, hX, hk => by
    have ho : ops[k]? = some o := (hl 0 o rfl).1
    have hgn : o.guard = none := (hl 0 o rfl).2
    have hl' : ∀ (i : Nat) o, r[i]? = some o → ops[k + 1 + i]? = some o ∧ o.guard = none := fun i o' h => by
      have := hl (i + 1) o' (by simpa using h)
      rw [show k + 1 + i = k + (i + 1) by omega]
      exact this
    rw [List.length_cons, List.range'_succ]
    unfold wpOpsS
    simp only [ho]
    have run : o.wp P a w (fun a' w' => wpOpsS P ops Q (List.range' (k + 1) r.length) a' cs w') (fun e a' w' => Q e a' cs w') →
        (match (execOp a.eval o).run P w with
        | .ok .recover w' => (match recoverD cs with
          | some (v, cs') => wpOpsS P ops Q (List.range' (k + 1) r.length) (a.put o.dst v) cs' w'
          | none => wpOpsS P ops Q (List.range' (k + 1) r.length) (a.put o.dst .nilIface) cs w')
        | r' => o.upon P a (fun a' w' => wpOpsS P ops Q (List.range' (k + 1) r.length) a' cs w') (fun e a' w' => Q e a' cs w') r') := by
      intro h
      unfold Oper.wp at h
      split
      · rename_i w' hr
        rw [hr] at h
        exact (upon_recover h).elim
      · exact h
    simp only [arun] at hk
    split at hk
    · rename_i hg
      rw [if_pos (by simp [Region.wanted, hg])]
      exact run (astep_ok HT ρ hI hE hX hk (fun S' w' C' a' h1 h2 h3 h4 => arunS_ok ρ ops hn hp r (k + 1) hl' h2 h3 h4 h1) (fun v x S' w' C' h1 h2 h3 h4 h5 => hp v x S' w' C' a h1 h2 h3 h4 h5))
    · rename_i j want hg
      rw [hgn] at hg; cases hg

def noGuard : List Oper → Bool
  | [] => true
  | o :: l => o.guard.isNone && noGuard l
theorem noGuard_mem : ∀ {l : List Oper}, noGuard l = true → ∀ o ∈ l, o.guard = none
  | [], _, o, ho => (List.not_mem_nil ho).elim
  | q :: l, h, o, ho => by
    rw [noGuard, Bool.and_eq_true] at h
    rcases List.mem_cons.1 ho with e | e
    · rw [e]; exact Option.isNone_iff_eq_none.1 h.1
    · exact noGuard_mem h.2 o e

include HT in
theorem ADef.recoverL {ρ f : Nat} {fn : Func} {id : Nat} {o : Oper} {l : List Oper} {ops : Array Oper} {c : Code} {N d : Nat} {E : List (Nat × Val)} {rs : List ResultVar} (hf : P.funcs[f]? = some fn) (hb : fn.body = some (.seq (.region id ops false) c)) (hops : ops.toList = o :: l) (hng : noGuard l = true) (hN : fn.ntmps = N) (hr : fn.results.toList = rs)
    (hop : o.op = .call { callee := .builtin .recover, args := #[], argTypes := #[] }) (hg : o.guard = none) (hd : o.dst = some d) (hdN : Nat.blt d N = true)
    {args : List AV} {σ : List AObj} {u : AMode} {R : Out → AMode → List AObj → Prop} (he : env0 0 (args.map .c) = E) (hn : Nat.ble args.length N = true)
    (h : arun P T ρ ops l ⟨N, (d, .c u.val) :: E, σ, []⟩ (fun S' => AW P T ρ c S' (afinU T rs u.caught R)) (fun _ _ => False)) : ADef P f args σ u R :=
  ⟨fun w C vs um hI hv hM => by
    subst hN; subst hr; subst he
    refine callsD_of_wpS hf hb fun c0 cs hu => ?_
    refine wpS_seq (wpS_region ?_)
    have hst := start_env (fn := fn) (repL_vs hv) (by simpa using Nat.le_of_ble_eq_true hn) σ
    rw [← hu] at hM
    obtain ⟨v, um', m1, m2, m3⟩ := recoverD_ok (cs := cs) hM
    have hexec : (execOp (Act.eval { tmps := vs ++ Array.replicate (fn.ntmps - vs.size) undef, defers := [] }) o).run P w = .ok .recover w := by
      simp [execOp, hop, resolve, invoke, builtin]
    have ho : ops[0]? = some o := by rw [← Array.getElem?_toList, hops]; rfl
    have hsz : ops.size = l.length + 1 := by rw [← Array.length_toList, hops]; rfl
    have hl : ∀ (i : Nat) q, l[i]? = some q → ops[1 + i]? = some q ∧ q.guard = none := fun i q hq => by
      refine ⟨?_, noGuard_mem hng q (List.mem_of_getElem? hq)⟩
      rw [← Array.getElem?_toList, hops, Nat.add_comm, List.getElem?_cons_succ]; exact hq
    have key : ∀ Qb, Qb = (bodyPostS P fn c0 cs fun e um' w' => ∃ o u' σ' C', R o u' σ' ∧ ModeOk w' C' um' u' ∧ Inv w' C' σ' ∧ Ext w C σ w' C' σ' ∧ OutOk w' C' e o) →
        wpOpsS P ops (Exit.thenS (c.wpS P Qb) Qb) (List.range' 1 l.length) (Act.put { tmps := vs ++ Array.replicate (fn.ntmps - vs.size) undef, defers := [] } o.dst v) ({ c0 with mode := um' } :: cs) w := by
      rintro Qb rfl
      refine arunS_ok HT ρ ops (w0 := w) (C0 := C) (σ0 := σ) (fun S' w1 C1 a1 hA h2 h3 h4 => ?_) (fun v x S' w' C' a hA _ _ _ _ => hA.elim) l 1 hl hI (by rw [hd]; exact hst.put (S := start fn (args.map .c) σ) (blt_lt hdN) (.c _ _ m2)) (.refl w C σ) h
      refine wpS_of_wp (wp_mono (hA.out w1 C1 a1 h2 h3) ?_)
      rintro e a' w' ⟨x, ⟨n', env', σ', ds'⟩, C', hk, hx, hI', hE', hX1⟩
      have hX := h4.trans hX1
      cases ds' with
      | cons _ _ => cases x <;> exact hk.elim
      | nil =>
      have hd0 : a'.defers = [] := List.eq_nil_of_length_eq_zero (by rw [hE'.dlen]; rfl)
      have m1' : ModeOk w' C' um' u.caught := by
        cases um' <;> cases hu' : u.caught <;> rw [hu'] at m1 <;> try exact m1.elim
        · trivial
        · obtain ⟨v, e, hr⟩ := m1
          exact ⟨v, e, hr.mono hX.le⟩
      have fin : aResults T env' σ' fn.results.toList (fun vs => R (.ret (oneOf vs)) u.caught σ') →
          a'.defers = [] ∧ ∃ u', ({ c0 with mode := um' } :: cs : List Frame) = { c0 with mode := u' } :: cs ∧ ∃ v, (results fn a'.tmps).run P w' = .ok v w' ∧
            ∃ o u'' σ' C', R o u'' σ' ∧ ModeOk w' C' u' u'' ∧ Inv w' C' σ' ∧ Ext w C σ w' C' σ' ∧ OutOk w' C' (.returned v) o := fun hk => by
        obtain ⟨vs', us, k1, k2, k3⟩ := aResults_ok HT hI' hE' _ hk
        exact ⟨hd0, um', rfl, _, results_run k2, _, _, σ', C', k1, m1', hI', hX, _, rfl, one_tuple k3⟩
      cases e <;> cases x <;> first | (exact hx.elim) | skip
      · exact fin hk
      · exact hk.elim
      · exact fin hk
      · obtain ⟨v, rfl, hr⟩ := hx
        exact ⟨hd0, um', rfl, _, _, σ', C', hk, m1', hI', hX, v, rfl, hr⟩
    rw [hsz, List.range_eq_range', List.range'_succ]
    unfold wpOpsS
    simp only [ho]
    rw [if_pos (by simp [Region.wanted, hg])]
    rw [hexec]
    rcases m3 with m3 | ⟨m3, m4, m5⟩
    · simp only [m3]
      exact key _ rfl
    · simp only [m3]
      subst m5
      have key := key _ rfl
      rw [m4] at key
      exact key⟩

end
end Go.Proofs.Ytoglfnjankinnaa.E

/- The engine, part 26: a call whose argument tells more than the contract asks. No conditions. -/
set_option linter.unusedVariables false
set_option linter.unusedSimpArgs false
set_option linter.unusedSectionVars false
namespace Go.Proofs.Ytoglfnjankinnaa.E
open Go

theorem RepD.front {w : World} {rg : Nat → Option Nat} {v : Value} {r : Nat} {a b : List DV} (h : RepD w rg v (.rp r (a ++ b))) : RepD w rg v (.rp r a) := by
  cases h with
  | rp _ b' o _ cs e fz vs hr hh hcell hrep =>
    exact .rp r b' o a cs e fz vs hr hh (fun i hi => hcell i (by simp; omega)) (fun i x hx => hrep i x (by
      rw [List.getElem?_append_left (List.getElem?_eq_some_iff.1 hx).1]; exact hx))

/-- The first tells no less than the second. -/
inductive ArgLe : Val → Val → Prop where
  | same (x : Val) : ArgLe x x
  | rp (r : Nat) (a b : List DV) : ArgLe (.c (.d (.rp r (a ++ b)))) (.c (.d (.rp r a)))
theorem ArgLe.rep {x y : Val} (h : ArgLe x y) {w : World} {C : Cz} {v : Value} (g : RepV w C v x) : RepV w C v y := by
  cases h with
  | same => exact g
  | rp r a b => exact .c _ _ (.d _ _ (repA_d (c_of g)).front)
inductive ArgsLe : List Val → List Val → Prop where
  | nil : ArgsLe [] []
  | cons {x y : Val} {l m : List Val} (h : ArgLe x y) (t : ArgsLe l m) : ArgsLe (x :: l) (y :: m)
theorem ArgsLe.rep {xs ys : List Val} (h : ArgsLe xs ys) : ∀ {w : World} {C : Cz} {vs : List Value}, RepVs w C vs xs → RepVs w C vs ys := by
  induction h with
  | nil => intro w C vs g; exact g
  | @cons x y l m h t ih =>
    intro w C vs g
    obtain ⟨g1, g2⟩ := g
    cases vs with
    | nil => simp at g1
    | cons v vs =>
      have := ih (w := w) (C := C) (vs := vs) ⟨by simpa using g1, fun i v x hv hx => g2 (i + 1) v x (by simpa using hv) (by simpa using hx)⟩
      refine ⟨by simpa using this.1, fun i u z hu hz => ?_⟩
      cases i with
      | zero => simp at hu hz; subst hu; subst hz; exact h.rep (g2 0 _ _ rfl rfl)
      | succ i => exact this.2 i u z (by simpa using hu) (by simpa using hz)
theorem ACall.args {P : Program} {f : FuncId} {xs ys : List Val} {σ : List AObj} {R : Out → List AObj → Prop} (h : ArgsLe xs ys) (c : ACall P f ys σ R) : ACall P f xs σ R :=
  ⟨fun w C vs hI hv => c.out w C vs hI (h.rep hv)⟩
end Go.Proofs.Ytoglfnjankinnaa.E

/- The engine, part 27: a call whose argument is a nil slice that is to grow: by the contract at an own row of no elements. No conditions. -/
set_option linter.unusedVariables false
set_option linter.unusedSimpArgs false
set_option linter.unusedSectionVars false
namespace Go.Proofs.Ytoglfnjankinnaa.E
open Go

/-- The second has the own row n where the first has nil. -/
def ghosts (n : Nat) : List Val → List Val → Prop
  | [], [] => True
  | x :: xs, y :: ys => (x = y ∨ (x = .c (.d .nils) ∧ y = .c (.own n 0))) ∧ ghosts n xs ys
  | _, _ => False
theorem ghosts_rep {w : World} {C : Cz} {n : Nat} (h0 : RepA w C (.slice none 0 0) (.own n 0)) : ∀ {xs ys : List Val} {vs : List Value}, ghosts n xs ys → RepVs w C vs xs → RepVs w C vs ys
  | [], [], vs, _, h => h
  | x :: xs, y :: ys, [], _, h => by have := h.1; simp at this
  | x :: xs, y :: ys, v :: vs, g, h => by
    obtain ⟨h1, h2⟩ := h.tail
    refine .cons ?_ (ghosts_rep h0 g.2 h2)
    rcases g.1 with rfl | ⟨rfl, rfl⟩
    · exact h1
    · have := nils_val (c_of h1)
      subst this
      exact .c _ _ h0
  | [], _ :: _, vs, g, _ => g.elim
  | _ :: _, [], vs, g, _ => g.elim
theorem ACall.ghost {P : Program} {f : FuncId} {xs ys : List Val} {σ : List AObj} {R : Out → List AObj → Prop} (e sz : Nat) (hz : 0 < sz) (hg : ghosts σ.length xs ys) (c : ACall P f ys (σ ++ [.row e sz []]) R) : ACall P f xs σ R :=
  ⟨fun w C vs hI hv => by
    obtain ⟨C1, I1, E1, r1, l1⟩ := nil_row (e := e) hI hz
    refine (c.out w C1 vs I1 (ghosts_rep r1 hg (hv.mono l1))).mono ?_
    rintro en w' ⟨o, σ', C', q1, q2, q3, q4⟩
    exact ⟨o, σ', C', q1, q2, E1.trans q3, q4⟩⟩
end Go.Proofs.Ytoglfnjankinnaa.E
