/- The engine, part 15: the machine does what is told of an operation; regions; code. No conditions. -/
import Derived.Test.YtdhkopangbgehaaEng14
set_option linter.unusedVariables false
set_option linter.unusedSimpArgs false
namespace Go.Proofs.Ytdhkopangbgehaa.E
open Go

section
variable {P : Program} {T : Tab} (HT : TabOk P T)

theorem call_wp {o : Oper} {a : Act} {w : World} {C : Cz} {S : St} {next : Act → World → Prop} {Q : Exit → Act → World → Prop} {f : FuncId} {vs : Array Value} (hrun : (execOp a.eval o).run P w = .ok (.enter f vs) w)
    {K : Val → List AObj → Prop} {KP : AV → List AObj → Prop} (hc : Calls P f vs w fun e w' => ∃ x σ' C', outK K KP x σ' ∧ Inv w' C' σ' ∧ Ext w C S.σ w' C' σ' ∧ OutOk w' C' e x)
    (hn : ∀ v w' C' x σ', K x σ' → Inv w' C' σ' → Ext w C S.σ w' C' σ' → RepV w' C' v x → next (a.put o.dst v) w')
    (hp : ∀ v x w' C' σ', KP x σ' → Inv w' C' σ' → Ext w C S.σ w' C' σ' → RepA w' C' v x → Q (.panic [{ v := v, recovered := false }]) a w') : o.wp P a w next Q := by
  unfold Oper.wp
  rw [hrun, Oper.upon_enter]
  refine hc.mono ?_
  rintro e w' ⟨x, σ', C', hk, h1, h2, h3⟩
  cases x with
  | ret y =>
    obtain ⟨v, rfl, hr⟩ := h3
    exact hn v w' C' y σ' hk h1 h2 hr
  | pan y =>
    obtain ⟨v, rfl, hr⟩ := h3
    exact hp v y w' C' σ' hk h1 h2 hr

theorem builtin_wp {o : Oper} {a : Act} {w : World} {C : Cz} {σ : List AObj} {s : Sem Value} (hs : (execOp a.eval o).run P w = ((do pure (Next.value (← s)) : Sem Next)).run P w) {K : Val → List AObj → Prop} (h : OK1 P s w C σ K) {next : Act → World → Prop} {Q : Exit → Act → World → Prop}
    (hn : ∀ v w' C' x σ', K x σ' → Inv w' C' σ' → Ext w C σ w' C' σ' → RepV w' C' v x → next (a.put o.dst v) w') : o.wp P a w next Q := by
  obtain ⟨v, w', C', x, σ', h1, h2, h3, h4, h5⟩ := h
  refine wp_val (v := v) (w' := w') ?_ (hn v w' C' x σ' h2 h3 h4 h5)
  rw [hs, Sem.run_bind, h1]; rfl

set_option maxHeartbeats 4000000 in
include HT in
theorem aop_ok (ρ : Nat) {w : World} {C : Cz} {a : Act} {S : St} (hI : Inv w C S.σ) (hE : EnvOk w C a S) {o : Oper} {K : Val → List AObj → Prop} {KD : Dfr → Prop} {KP : AV → List AObj → Prop} (hk : aop P T ρ S.env S.σ o K KD KP)
    {next : Act → World → Prop} {Q : Exit → Act → World → Prop}
    (hn : ∀ v w' C' x σ', K x σ' → Inv w' C' σ' → Ext w C S.σ w' C' σ' → RepV w' C' v x → next (a.put o.dst v) w')
    (hd : ∀ d x, KD x → DfrOk w C d x → next ({ a with defers := d :: a.defers }.put o.dst undef) w)
    (hp : ∀ v x w' C' σ', KP x σ' → Inv w' C' σ' → Ext w C S.σ w' C' σ' → RepA w' C' v x → Q (.panic [{ v := v, recovered := false }]) a w') : o.wp P a w next Q := by
  unfold aop at hk
  simp only [fK_eq] at hk
  split at hk
  · rename_i x ho
    exact wp_val (by simp [execOp, ho]) (hn _ w C _ S.σ hk hI (.refl w C _) (ev_rep hE x))
  · rename_i x ho
    exact wp_val (by simp [execOp, ho]) (hn _ w C _ S.σ hk hI (.refl w C _) (ev_rep hE x))
  · rename_i c x y ho
    split at hk
    · rename_i q hc
      have h0 := ev_rep hE c
      rw [hc] at h0
      have hb := bool_of h0
      have hx := ev_rep hE x
      have hy := ev_rep hE y
      refine wp_val (v := if q = true then a.eval x else a.eval y) (w' := w) ?_ ?_
      · simp only [execOp, ho, hb, asBool, Sem.run_bind, Sem.run_pure, Result.andThen_ok]
      · unfold aPick at hk
        split at hk
        · rename_i p1 p2 e1 e2
          rw [e1] at hx
          rw [e2] at hy
          refine hn _ w C _ S.σ hk hI (.refl w C _) ?_
          cases q
          · simpa using hy
          · simpa using hx
        · cases q
          · exact hn _ w C _ S.σ hk hI (.refl w C _) (by simpa using hy)
          · exact hn _ w C _ S.σ hk hI (.refl w C _) (by simpa using hx)
    · exact hk.elim
  · rename_i t ho
    exact wp_ok1 (by simp [execOp, ho]) (ok_alloc HT hI hk) hn
  · rename_i t x ho
    exact wp_ok1 (s := Instr.box t (a.eval x)) (by simp [execOp, ho]) (ok_box hI (ev_rep hE x) hk) hn
  · rename_i t ps ho
    exact wp_ok1 (s := Instr.build t (ps.map fun (i, x) => (i, a.eval x))) (by simp [execOp, ho]) (ok_build HT hI (parts_rep hE ps) hk) hn
  · rename_i t len ps ho
    exact wp_ok1 (s := Instr.buildSlice t len (ps.map fun (i, x) => (i, a.eval x))) (by simp [execOp, ho]) (ok_buildSlice HT ρ hI (parts_rep hE ps) hk) hn
  · rename_i t x ho
    exact wp_ok1 (s := Instr.loadAt t (a.eval x)) (by simp [execOp, ho]) (ok_load HT hI (ev_rep hE x) hk) hn
  · rename_i t x y ho
    obtain ⟨w', C', σ', h1, h2, h3, h4⟩ := ok_store HT hI (ev_rep hE x) (ev_rep hE y) hk
    unfold Oper.wp
    have : (execOp a.eval o).run P w = .ok .skip w' := by simp [execOp, ho, h1]
    rw [this]
    exact hn _ w' C' _ σ' h2 h3 h4 (.junk _)
  · rename_i x ho
    obtain ⟨h1, h2⟩ := ok_nil (ev_rep hE x) hk
    refine wp_val (v := a.eval x) (w' := w) ?_ (hn _ w C _ S.σ h1 hI (.refl w C _) (ev_rep hE x))
    rcases h2 with ⟨b, hb⟩ | ⟨f, b, c, hb⟩ <;> simp [execOp, ho, hb]
  · rename_i op t x y yt ho
    exact wp_ok1 (s := do eqGuard op t x y (a.eval x) (a.eval y); binOp op t (a.eval x) (a.eval y)) (by simp [execOp, ho]) (ok_bin HT hI (ev_rep hE x) (ev_rep hE y) hk) hn
  · rename_i op t x ho
    exact wp_ok1 (s := Op.unary op (a.eval x)) (by simp [execOp, ho]) (ok_un hI (ev_rep hE x) hk) hn
  · rename_i s d x ho
    exact wp_ok1 (s := convert s d (a.eval x)) (by simp [execOp, ho]) (ok_conv HT ρ hI (ev_rep hE x) hk) hn
  · rename_i t x ho
    exact wp_ok1 (s := Instr.makeInterface t (a.eval x)) (by simp [execOp, ho]) (ok_mkIfc HT hI (ev_rep hE x) hk) hn
  · rename_i fn first cap ho
    split at hk
    · rename_i f as bs h1 h2 h3
      obtain rfl : fn = .func f := by cases fn <;> simp [isFn] at h1; subst h1; rfl
      have r1 := avs_rep (evs_rep hE first) h2
      have r2 := avs_rep (evs_rep hE cap) h3
      refine wp_val (v := .func (.func f) (first.map a.eval) (cap.map a.eval)) (w' := w) (by simp [execOp, ho, Instr.makeFunc]) (hn _ w C _ S.σ hk hI (.refl w C _) (.c _ _ ?_))
      refine .fn f _ _ as bs (fun i => ((first.map a.eval)[i]?).getD undef) (fun i => ((cap.map a.eval)[i]?).getD undef) (by have := r1.1; simpa using this) (by have := r2.1; simpa using this) (fun i hi => ?_) (fun i hi => ?_) (fun i x hx => ?_) (fun i x hx => ?_)
      · have := r1.1
        rw [Array.getElem?_eq_getElem (by simp at this ⊢; omega)]; rfl
      · have := r2.1
        rw [Array.getElem?_eq_getElem (by simp at this ⊢; omega)]; rfl
      · have hl := r1.1
        have hi := (List.getElem?_eq_some_iff.1 hx).1
        have e : (first.map a.eval)[i]? = some ((first.map a.eval)[i]'(by simp at hl ⊢; omega)) := Array.getElem?_eq_getElem _
        rw [e]
        exact r1.2 i _ x (by rw [Array.getElem?_toList]; exact e) hx
      · have hl := r2.1
        have hi := (List.getElem?_eq_some_iff.1 hx).1
        have e : (cap.map a.eval)[i]? = some ((cap.map a.eval)[i]'(by simp at hl ⊢; omega)) := Array.getElem?_eq_getElem _
        rw [e]
        exact r2.2 i _ x (by rw [Array.getElem?_toList]; exact e) hx
    · exact hk.elim
  · rename_i t x lo hi mx ho
    exact wp_ok1 (s := Instr.sliceAt t (a.eval x) (lo.map a.eval) (hi.map a.eval) (mx.map a.eval)) (by simp [execOp, ho]) (ok_slice HT hI (ev_rep hE x) (repO_map hE lo) (repO_map hE hi) (repO_map hE mx) hk) hn
  · rename_i s x f ho
    exact wp_ok1 (s := Instr.fieldAt s (a.eval x) f) (by simp [execOp, ho]) (ok_fieldAddr HT hI (ev_rep hE x) hk) hn
  · rename_i s x f ho
    exact wp_ok1 (s := Instr.field s (a.eval x) f) (by simp [execOp, ho]) (ok_field HT hI (ev_rep hE x) hk) hn
  · rename_i t x i ho
    exact wp_ok1 (s := Instr.indexAt t (a.eval x) (a.eval i)) (by simp [execOp, ho]) (ok_indexAddr HT hI (ev_rep hE x) (ev_rep hE i) hk) hn
  · rename_i t x i ho
    exact wp_ok1 (s := Instr.index t (a.eval x) (a.eval i)) (by simp [execOp, ho]) (ok_index HT hI (ev_rep hE x) (ev_rep hE i) hk) hn
  · rename_i x xt t ok ho
    exact wp_ok1 (s := Instr.typeAssert (a.eval x) xt t ok) (by simp [execOp, ho]) (ok_assert HT hI (ev_rep hE x) hk) hn
  · rename_i x k ho
    exact wp_ok1 (s := Instr.extract (a.eval x) k) (by simp [execOp, ho]) (ok_extract hI (ev_rep hE x) hk) hn
  · rename_i c ho
    split at hk
    · rename_i f hcal
      split at hk
      · rename_i g first cap hf
        unfold aCallF at hk
        cases hfok : T.fok g with
        | false => rw [hfok] at hk; exact hk.elim
        | true =>
        rw [hfok] at hk
        simp only [cond_true] at hk
        have hv := ev_rep hE f
        rw [hf] at hv
        obtain ⟨fs, cs, hfv, r1, r2⟩ := fn_parts (c_of hv)
        have hargs := evs_rep hE c.args
        have hall : RepVs w C (fs ++ c.args.map a.eval ++ cs).toList (first.map .c ++ (c.args.toList.map (ev S.env) ++ cap.map .c)) := by
          have := (repL_vs r1).append (hargs.append (repL_vs r2))
          simpa using this
        obtain ⟨C1, ys, σ1, k1, l1, I1, E1, v1⟩ := aArgs_ok ρ hI hall hk
        have hc := aCall0_ok I1 v1 k1
        refine call_wp (C := C) (S := S) (f := g) (vs := fs ++ c.args.map a.eval ++ cs) ?_ (hc.mono fun e w' ⟨x, σ', C', q1, q2, q3, q4⟩ => ⟨x, σ', C', q1, q2, E1.trans q3, q4⟩) hn hp
        have := HT.fok g hfok (fs ++ c.args.map a.eval ++ cs) w
        simp only [execOp, ho, resolve, hcal, hfv, Deferred.ofValue, Sem.run_bind, Sem.run_pure, Result.andThen_ok, invoke]
        exact this
      · exact hk.elim
    · rename_i b hcal
      have hargs := evs_rep hE c.args
      unfold aBuiltin at hk
      split at hk
      · rename_i t x ht hxs
        cases hl : lenTy T t x with
        | false => rw [hl] at hk; exact hk.elim
        | true =>
          rw [hl] at hk
          obtain ⟨u, hu, hr⟩ := one_of hargs hxs
          have hts : c.argTypes = #[t] := by have := congrArg List.toArray ht; simpa using this
          exact builtin_wp (s := Builtin.len_ #[t] o.type #[u]) (by simp [execOp, ho, resolve, hcal, invoke, builtin, hts, hu]) (ok_len HT hI hr hl hk) hn
      · rename_i t t' s x ht hxs
        cases hl : natEq t' t with
        | false => rw [hl] at hk; exact hk.elim
        | true =>
          rw [hl] at hk
          have := natEq_eq hl
          subst this
          obtain ⟨u, v, hu, hr1, hr2⟩ := two_of hargs hxs
          have hts : c.argTypes = #[t', t'] := by have := congrArg List.toArray ht; simpa using this
          exact builtin_wp (s := Builtin.append_ #[t', t'] o.type #[u, v]) (by simp [execOp, ho, resolve, hcal, invoke, builtin, hts, hu]) (ok_append HT hI hr1 hr2 hk) hn
      · rename_i x y hxs
        obtain ⟨u, v, hu, hr1, hr2⟩ := two_of hargs hxs
        exact builtin_wp (s := Builtin.max_ c.argTypes o.type #[u, v]) (by simp [execOp, ho, resolve, hcal, invoke, builtin, hu]) (ok_max hI hr1 hr2 hk) hn
      · rename_i x y hxs
        obtain ⟨u, v, hu, hr1, hr2⟩ := two_of hargs hxs
        exact builtin_wp (s := Builtin.min_ c.argTypes o.type #[u, v]) (by simp [execOp, ho, resolve, hcal, invoke, builtin, hu]) (ok_min hI hr1 hr2 hk) hn
      · exact hk.elim
    · exact hk.elim
  · rename_i c ho
    split at hk
    · rename_i f hcal
      split at hk
      · rename_i g first cap as hf has
        have hv := ev_rep hE f
        rw [hf] at hv
        obtain ⟨fs, cs, hfv, r1, r2⟩ := fn_parts (c_of hv)
        have hargs := avs_rep (evs_rep hE c.args) has
        unfold Oper.wp
        have : (execOp a.eval o).run P w = .ok (.defer { target := .fn (.func g) cs, args := fs ++ c.args.map a.eval }) w := by simp [execOp, ho, resolve, hcal, hfv, Deferred.ofValue]
        rw [this]
        refine hd _ _ hk ⟨cs, rfl, ?_⟩
        have := (r1.append hargs).append r2
        simpa using this
      · exact hk.elim
    · exact hk.elim
  · rename_i x ho
    have hx := ev_rep hE x
    have hrun : ∀ t v, a.eval x = .iface t v → (execOp a.eval o).run P w = .halt (.panic (.iface t v)) w := fun t v e => by simp [execOp, ho, e, Instr.panic]
    split at hk
    · rename_i t y hy
      rw [hy] at hx
      have hr := c_of hx
      obtain ⟨v, hv⟩ : ∃ v, a.eval x = .iface t v := by
        generalize a.eval x = z at hr
        cases hr; exact ⟨_, rfl⟩
      unfold Oper.wp
      rw [hrun t v hv]
      exact hp _ _ w C S.σ hk hI (.refl w C _) (by rw [← hv]; exact hr)
    · rename_i t y hy
      rw [hy] at hx
      have hr := c_of hx
      obtain ⟨v, hv⟩ : ∃ v, a.eval x = .iface t v := by
        generalize a.eval x = z at hr
        cases hr; exact ⟨_, rfl⟩
      unfold Oper.wp
      rw [hrun t v hv]
      exact hp _ _ w C S.σ hk hI (.refl w C _) (by rw [← hv]; exact hr)
    · rename_i t y hy
      rw [hy] at hx
      have hr := c_of hx
      obtain ⟨v, hv⟩ : ∃ v, a.eval x = .iface t v := by
        have hr := repA_d hr
        generalize a.eval x = z at hr
        cases hr; exact ⟨_, rfl⟩
      unfold Oper.wp
      rw [hrun t v hv]
      exact hp _ _ w C S.σ hk hI (.refl w C _) (by rw [← hv]; exact hr)
    · rename_i t y hy
      rw [hy] at hx
      have hr := c_of hx
      obtain ⟨v, hv⟩ : ∃ v, a.eval x = .iface t v := by
        have hr := repA_d hr
        generalize a.eval x = z at hr
        cases hr; exact ⟨_, rfl⟩
      unfold Oper.wp
      rw [hrun t v hv]
      exact hp _ _ w C S.σ hk hI (.refl w C _) (by rw [← hv]; exact hr)
    · exact hk.elim
  · exact hk.elim

end
end Go.Proofs.Ytdhkopangbgehaa.E
