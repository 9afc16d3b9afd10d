/- The engine, part 20: the rule for regions whose order is drawn. No conditions. -/
import Derived.Test.YtdhkopangbgehaaEng19
set_option linter.unusedVariables false
set_option linter.unusedSimpArgs false
set_option linter.unusedSectionVars false
namespace Go.Proofs.Ytdhkopangbgehaa.E
open Go

section
variable {P : Program} {T : Tab} (HT : TabOk P T)

/-- What holds while a drawn region runs: 'pend' is told of but not done, 'rest' is neither. -/
structure Sim (P : Program) (T : Tab) (ρ : Nat) (ops : Array Oper) (E0 : List (Nat × Val)) (w0 : World) (C0 : Cz) (σ0 : List AObj) (listed : Array Bool) (pend rest ap : List Nat) (n : Nat) (env : List (Nat × Val)) (σ : List AObj) (ds : List Dfr)
    (a : Act) (w : World) (C : Cz) : Prop where
  size : listed.size = ops.size
  lst : ∀ j, j < ops.size → (listed.getD j true = false ↔ j ∈ pend ∨ j ∈ rest)
  lt : ∀ j, j ∈ pend ∨ j ∈ rest → j < ops.size
  nd : (pend ++ rest).Nodup
  rsp : resp ops rest = true
  gd : good ops rest = true
  hI : Inv w C σ
  hE : EnvOk w C a ⟨n, mask ops pend env, σ, ds⟩
  hX : Ext w0 C0 σ0 w C σ
  pok : ∀ j ∈ pend, ∀ o, ops[j]? = some o → Pend P T ρ ops env σ o ∧ (wantA ops env o = some true → j ∈ ap)
  pq : ∀ j ∈ pend, ∀ o, ops[j]? = some o → loud o = false ∧ ∀ d, o.dst = some d → d < n
  cl : ∀ j m, j < ops.size → j ∉ rest → aft ops m j = true → m ∉ rest
  e0 : ∀ t, get E0 t = .junk ∨ ((∀ (j : Nat) (o : Oper), ops[j]? = some o → o.dst ≠ some t) ∧ get E0 t = get env t)

theorem dstOf_some {ops : Array Oper} {j : Nat} {o : Oper} (h : ops[j]? = some o) : dstOf ops j = o.dst := by
  unfold dstOf; rw [h]
theorem dstOf_op {ops : Array Oper} {j d : Nat} (h : dstOf ops j = some d) : ∃ o, ops[j]? = some o ∧ o.dst = some d := by
  unfold dstOf at h
  split at h
  · rename_i o ho; exact ⟨o, ho, h⟩
  · cases h

def Apart (ops : Array Oper) : Prop := ∀ (m j : Nat) (om oj : Oper) (d : Nat), ops[m]? = some om → ops[j]? = some oj → om.dst = some d →
  (m = j ∨ oj.dst ≠ some d) ∧ (d ∈ reads ops oj → aft ops m j = true ∨ (loud om = true ∧ (m = j ∨ aft ops j m = true)))

variable {ρ : Nat} {ops : Array Oper} {E0 : List (Nat × Val)} {w0 : World} {C0 : Cz} {σ0 : List AObj} {listed : Array Bool} {pend rest ap : List Nat} {n : Nat} {env : List (Nat × Val)} {σ : List AObj} {ds : List Dfr} {a : Act} {w : World} {C : Cz}

/-- The same slots, told otherwise. -/
theorem Sim.told {env1 : List (Nat × Val)} (h : Sim P T ρ ops E0 w0 C0 σ0 listed pend rest ap n env σ ds a w C) (he : ∀ t, get env1 t = get env t) : Sim P T ρ ops E0 w0 C0 σ0 listed pend rest ap n env1 σ ds a w C :=
  { h with
    hE := h.hE.weak fun t => by
      rcases mask_get (ops := ops) (env := env1) (t := t) (l := pend) with ⟨_, h2⟩ | ⟨h1, h2⟩
      · exact .inl h2
      · right
        rw [h2, he]
        rcases mask_get (ops := ops) (env := env) (t := t) (l := pend) with ⟨⟨j, h3, h4⟩, _⟩ | ⟨_, h3⟩
        · exact absurd h4 (h1 j h3)
        · exact h3.symm
    pok := fun j hj o ho => ⟨(h.pok j hj o ho).1.same (fun t _ => (he t).symm) (fun d _ => he d), fun hw => (h.pok j hj o ho).2 (by rw [← wantA_same (env := env1) fun t _ => he t]; exact hw)⟩
    e0 := fun t => by
      rcases h.e0 t with e | ⟨e1, e2⟩
      · exact .inl e
      · exact .inr ⟨e1, by rw [e2, he]⟩ }

theorem resp_head {i : Nat} {r : List Nat} (h : resp ops (i :: r) = true) : (∀ m ∈ i :: r, aft ops m i = false) ∧ resp ops r = true := by
  simp only [resp, Bool.and_eq_true, List.all_eq_true] at h
  refine ⟨fun m hm => ?_, h.2⟩
  rcases List.mem_cons.1 hm with rfl | hm
  · simpa using h.1.1
  · simpa using h.1.2 m hm

/-- The head of the rest is told of. -/
theorem Sim.push (hA : Apart ops) {h : Nat} {r ap' : List Nat} (H : Sim P T ρ ops E0 w0 C0 σ0 listed pend (h :: r) ap n env σ ds a w C) {o : Oper} (ho : ops[h]? = some o) (hqq : loud o = false) (hdl : ∀ d, o.dst = some d → d < n) {v : Val}
    (hp : Pend P T ρ ops (putE env o.dst v) σ o) (hap : wantA ops (putE env o.dst v) o = some true → h ∈ ap') (hsub : ∀ j ∈ ap, j ∈ ap')
    (hrd : ∀ j ∈ pend, ∀ oj, ops[j]? = some oj → ∀ d, o.dst = some d → d ∉ reads ops oj) :
    Sim P T ρ ops E0 w0 C0 σ0 listed (h :: pend) r ap' n (putE env o.dst v) σ ds a w C := by
  have hnd := H.nd
  have hnd' : (h :: pend ++ r).Nodup := by
    have : (pend ++ h :: r).Perm (h :: pend ++ r) := List.perm_middle
    exact this.nodup_iff.1 hnd
  have hhp : h ∉ pend := fun hh => by
    have := (List.nodup_cons.1 hnd').1
    exact this (by simp [hh])
  obtain ⟨r1, r2⟩ := resp_head H.rsp
  have hlt := H.lt h (.inr (by simp))
  refine ⟨H.size, fun j hj => (H.lst j hj).trans ?_, fun j hj => H.lt j ?_, hnd', r2, ?_, H.hI, ?_, H.hX, ?_, fun j hj oj hoj => ?_, ?_, ?_⟩
  · simp only [List.mem_cons]
    constructor
    · rintro (h1 | h1 | h1)
      · exact .inl (.inr h1)
      · exact .inl (.inl h1)
      · exact .inr h1
    · rintro ((h1 | h1) | h1)
      · exact .inr (.inl h1)
      · exact .inl h1
      · exact .inr (.inr h1)
  · simp only [List.mem_cons] at hj ⊢
    rcases hj with (h1 | h1) | h1
    · exact .inr (.inl h1)
    · exact .inl h1
    · exact .inr (.inr h1)
  · have := H.gd
    simp only [good, Bool.and_eq_true] at this
    exact this.2
  · refine H.hE.weak fun t => ?_
    rcases mask_get (ops := ops) (env := putE env o.dst v) (t := t) (l := h :: pend) with ⟨_, h2⟩ | ⟨h1, h2⟩
    · exact .inl h2
    · right
      rw [h2, putE_get, if_neg (by rw [← dstOf_some ho]; exact h1 h (by simp))]
      rcases mask_get (ops := ops) (env := env) (t := t) (l := pend) with ⟨⟨j, h3, h4⟩, _⟩ | ⟨_, h3⟩
      · exact absurd h4 (h1 j (by simp [h3]))
      · exact h3.symm
  · intro j hj oj hoj
    rcases List.mem_cons.1 hj with rfl | hj
    · rw [ho] at hoj; cases hoj
      exact ⟨hp, hap⟩
    · obtain ⟨q1, q2⟩ := H.pok j hj oj hoj
      have hr : ∀ t ∈ reads ops oj, get env t = get (putE env o.dst v) t := fun t ht => by
        rw [putE_get]
        split
        · rename_i e; exact absurd ht (hrd j hj oj hoj t e)
        · rfl
      refine ⟨q1.same hr fun d hd => ?_, fun hw => hsub j (q2 (by rw [wantA_same hr]; exact hw))⟩
      rw [putE_get]
      split
      · rename_i e
        rcases (hA h j o oj d ho hoj e).1 with e' | e'
        · subst e'; exact absurd hj hhp
        · exact absurd hd e'
      · rfl
  · rcases List.mem_cons.1 hj with rfl | hj
    · rw [ho] at hoj; cases hoj
      exact ⟨hqq, hdl⟩
    · exact H.pq j hj oj hoj
  · intro j m hj hjr ha hm
    by_cases e : j = h
    · subst e
      have := r1 m (by simp [hm])
      rw [ha] at this; cases this
    · exact H.cl j m hj (by simp [e, hjr]) ha (by simp [hm])
  · intro t
    rcases H.e0 t with e | ⟨e1, e2⟩
    · exact .inl e
    · exact .inr ⟨e1, by rw [putE_get, if_neg (e1 h o ho), e2]⟩

/-- Nothing that waits reads what the head writes, if the head is quiet. -/
theorem Sim.noread (hA : Apart ops) {h : Nat} {r : List Nat} (H : Sim P T ρ ops E0 w0 C0 σ0 listed pend (h :: r) ap n env σ ds a w C) {o : Oper} (ho : ops[h]? = some o)
    (hq : loud o = false ∨ ∀ j ∈ pend, aft ops j h = false) : ∀ j ∈ pend, ∀ oj, ops[j]? = some oj → ∀ d, o.dst = some d → d ∉ reads ops oj := by
  intro j hj oj hoj d hd hr
  have hnd := H.nd
  have hjr : j ∉ h :: r := fun hh => by
    have := List.nodup_append.1 hnd
    exact this.2.2 j hj j hh rfl
  rcases (hA h j o oj d ho hoj hd).2 hr with h1 | ⟨h1, h2⟩
  · exact H.cl j h (H.lt j (.inl hj)) hjr h1 (by simp)
  · rcases hq with hq | hq
    · rw [hq] at h1; cases h1
    · rcases h2 with h2 | h2
      · subst h2; exact hjr (by simp)
      · rw [hq j hj] at h2; cases h2

theorem noself (hA : Apart ops) {h : Nat} {r : List Nat} (H : Sim P T ρ ops E0 w0 C0 σ0 listed pend (h :: r) ap n env σ ds a w C) {o : Oper} (ho : ops[h]? = some o) (hq : loud o = false) : ∀ d, o.dst = some d → d ∉ reads ops o := by
  intro d hd hr
  rcases (hA h h o o d ho ho hd).2 hr with h1 | ⟨h1, _⟩
  · have := (resp_head H.rsp).1 h (by simp)
    rw [h1] at this; cases this
  · rw [hq] at h1; cases h1

theorem known_get {env : List (Nat × Val)} {g : Nat} {v : Val} (hv : get env g = v) (t : Nat) : get ((g, v) :: env) t = get env t := by
  rw [get_cons]
  split
  · rename_i e; subst e; exact hv.symm
  · rfl

/-- A step in the one order: with its guard told. -/
theorem stepD_cases {i : Nat} {o : Oper} {k : List Nat → St → Prop} {KP : AV → St → Prop} (hk : stepD P T ρ ops E0 ap i o n env σ ds k KP) :
    ∃ env1, (∀ t, get env1 t = get env t) ∧ ((wantA ops env1 o = some true ∧ goD P T ρ ops E0 ap i o n env1 σ ds k KP) ∨ (wantA ops env1 o = some false ∧ St.put n env1 σ ds o.dst (.tup []) (k ap))) := by
  unfold stepD at hk
  split at hk
  · rename_i hg
    exact ⟨env, fun _ => rfl, .inl ⟨by simp [wantA, hg], hk⟩⟩
  · rename_i j want hg
    split at hk
    · exact hk.elim
    · rename_i g hd
      split at hk
      · rename_i b hb
        split at hk
        · cases b with
          | true => exact ⟨_, known_get hb, .inl ⟨by simp [wantA, hg, hd, get_cons], hk⟩⟩
          | false => exact ⟨_, known_get hb, .inr ⟨by simp [wantA, hg, hd, get_cons], hk⟩⟩
        · cases b with
          | true => exact ⟨_, known_get hb, .inr ⟨by simp [wantA, hg, hd, get_cons], hk⟩⟩
          | false => exact ⟨_, known_get hb, .inl ⟨by simp [wantA, hg, hd, get_cons], hk⟩⟩
      · rename_i hb
        exact ⟨env, fun _ => rfl, .inr ⟨by simp [wantA, hg, hd, hb], hk⟩⟩
      · exact hk.elim

theorem Sim.pushSkip (hA : Apart ops) {h : Nat} {r : List Nat} (H : Sim P T ρ ops E0 w0 C0 σ0 listed pend (h :: r) ap n env σ ds a w C) {o : Oper} (ho : ops[h]? = some o) (hw : wantA ops env o = some false) (hqq : loud o = false) (hdl : ∀ d, o.dst = some d → d < n)
    (hrd : ∀ j ∈ pend, ∀ oj, ops[j]? = some oj → ∀ d, o.dst = some d → d ∉ reads ops oj) (hself : ∀ d, o.dst = some d → d ∉ reads ops o) :
    Sim P T ρ ops E0 w0 C0 σ0 listed (h :: pend) r ap n (putE env o.dst (.tup [])) σ ds a w C := by
  have hr : ∀ t ∈ reads ops o, get env t = get (putE env o.dst (.tup [])) t := fun t ht => by
    rw [putE_get]
    split
    · rename_i e; exact absurd ht (hself t e)
    · rfl
  refine H.push hA ho hqq hdl ⟨.tup [], fun d hd => by rw [putE_get, if_pos hd], .inl ⟨by rw [← wantA_same hr]; exact hw, rfl⟩⟩ (fun hw' => ?_) (fun _ h => h) hrd
  rw [← wantA_same hr, hw] at hw'; cases hw'

theorem Sim.pushGo (hA : Apart ops) {h : Nat} {r : List Nat} (H : Sim P T ρ ops E0 w0 C0 σ0 listed pend (h :: r) ap n env σ ds a w C) {o : Oper} (ho : ops[h]? = some o) (hw : wantA ops env o = some true) (hq : loud o = false) (hdl : ∀ d, o.dst = some d → d < n) {v : Val}
    (hv : aop P T ρ env σ o (fun u τ => u = v ∧ τ = σ) (fun _ => False) (fun _ _ => False)) :
    Sim P T ρ ops E0 w0 C0 σ0 listed (h :: pend) r (h :: ap) n (putE env o.dst v) σ ds a w C := by
  have hself := noself hA H ho hq
  have hr : ∀ t ∈ reads ops o, get env t = get (putE env o.dst v) t := fun t ht => by
    rw [putE_get]
    split
    · rename_i e; exact absurd ht (hself t e)
    · rfl
  exact H.push hA ho hq hdl ⟨v, fun d hd => by rw [putE_get, if_pos hd], .inr ⟨by rw [← wantA_same hr]; exact hw, hq, by rw [← aop_congr (ev_same fun t ht => hr t (by simp [reads, ht]))]; exact hv⟩⟩ (fun _ => by simp) (fun _ h => by simp [h]) (H.noread hA ho (.inl hq))

/-- What is not to come before i is told of. -/
theorem Sim.advance (hA : Apart ops) {K : St → Prop} {KP : AV → St → Prop} {i : Nat} : ∀ (rest : List Nat) {pend ap : List Nat} {env : List (Nat × Val)}, Sim P T ρ ops E0 w0 C0 σ0 listed pend rest ap n env σ ds a w C →
    arunD P T ρ ops E0 rest ap ⟨n, env, σ, ds⟩ K KP → (i ∈ pend ∨ i ∈ rest) → (∀ m, m ∈ pend ∨ m ∈ rest → aft ops m i = false) →
    ∃ pend' rest' ap' env', Sim P T ρ ops E0 w0 C0 σ0 listed pend' rest' ap' n env' σ ds a w C ∧ arunD P T ρ ops E0 rest' ap' ⟨n, env', σ, ds⟩ K KP ∧ pend'.length + rest'.length = pend.length + rest.length ∧
      (∀ m, m ∈ pend' ∨ m ∈ rest' → aft ops m i = false) ∧ (i ∈ pend' ∨ ∃ r o, rest' = i :: r ∧ ops[i]? = some o ∧ loud o = true)
  | [], pend, ap, env, H, hk, hi, hb => ⟨pend, [], ap, env, H, hk, rfl, hb, .inl (by simpa using hi)⟩
  | h :: r, pend, ap, env, H, hk, hi, hb => by
    by_cases hip : i ∈ pend
    · exact ⟨pend, h :: r, ap, env, H, hk, rfl, hb, .inl hip⟩
    have hk0 := hk
    simp only [arunD] at hk
    split at hk
    · rename_i _ _ o n' env' σ' ds' ho heq
      cases heq
      cases hl : loud o with
      | true =>
        by_cases e : i = h
        · subst e
          exact ⟨pend, i :: r, ap, env, H, hk0, rfl, hb, .inr ⟨r, o, rfl, ho, hl⟩⟩
        · have hir : i ∈ r := by
            rcases hi with hi | hi
            · exact absurd hi hip
            · simpa [e] using hi
          obtain ⟨m, hm, hbm⟩ := good_spec H.gd (by simp [loudAt, ho, hl]) i hir
          rw [hb m (.inr hm)] at hbm; cases hbm
      | false =>
        obtain ⟨env1, he1, hc⟩ := stepD_cases hk
        have H1 := H.told he1
        have hb' : ∀ m, m ∈ h :: pend ∨ m ∈ r → aft ops m i = false := fun m hm => hb m (by
          simp only [List.mem_cons] at hm ⊢
          rcases hm with (h1 | h1) | h1
          · exact .inr (.inl h1)
          · exact .inl h1
          · exact .inr (.inr h1))
        have hi' : i ∈ h :: pend ∨ i ∈ r := by
          simp only [List.mem_cons] at hi ⊢
          rcases hi with h1 | h1 | h1
          · exact .inl (.inr h1)
          · exact .inl (.inl h1)
          · exact .inr h1
        rcases hc with ⟨hw, hgo⟩ | ⟨hw, hput⟩
        · unfold goD at hgo
          rw [hl] at hgo
          simp only [cond_false] at hgo
          obtain ⟨v, h1, h2⟩ := quiet_det hl hgo
          obtain ⟨h3, h4⟩ := put_spec h1
          obtain ⟨p', r', a', e', q1, q2, q3, q4⟩ := Sim.advance hA r (H1.pushGo hA ho hw hl h3 h2) h4 hi' hb'
          exact ⟨p', r', a', e', q1, q2, by rw [q3]; simp; omega, q4⟩
        · obtain ⟨h3, h4⟩ := put_spec hput
          obtain ⟨p', r', a', e', q1, q2, q3, q4⟩ := Sim.advance hA r (H1.pushSkip hA ho hw hl h3 (H1.noread hA ho (.inl hl)) (noself hA H1 ho hl)) h4 hi' hb'
          exact ⟨p', r', a', e', q1, q2, by rw [q3]; simp; omega, q4⟩
    · exact hk.elim

end
end Go.Proofs.Ytdhkopangbgehaa.E
