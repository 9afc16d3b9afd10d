/- The engine, part 19: regions whose order is drawn: one order tells for all. No conditions. -/
import Derived.Test.YtdhkopangbgehaaEng18
set_option linter.unusedVariables false
set_option linter.unusedSimpArgs false
set_option linter.unusedSectionVars false
namespace Go.Proofs.Ytdhkopangbgehaa.E
open Go

section
variable {P : Program} {T : Tab}

/-! ### The run in one order -/
def recheck (T : Tab) (ops : Array Oper) (env : List (Nat × Val)) (σ : List AObj) : List Nat → Prop → Prop
  | [], X => X
  | j :: l, X => match ops[j]? with
    | some o => match o.op with
      | .load t x => match ev env x with
        | .c (.d _) => recheck T ops env σ l X
        | p => match o.dst with
          | some d => aLoad T σ t p (fun u _ => u = get env d ∧ recheck T ops env σ l X)
          | none => False
      | .indexAddr _ x _ => match ev env x with
        | .c (.d _) => recheck T ops env σ l X
        | .c (.full _ _ _) => recheck T ops env σ l X
        | _ => False
      | _ => recheck T ops env σ l X
    | none => False

def unreq (ops : Array Oper) (i : Nat) : List Nat → List Nat
  | [] => []
  | j :: l => bif aft ops j i then unreq ops i l else j :: unreq ops i l

def goD (P : Program) (T : Tab) (ρ : Nat) (ops : Array Oper) (E0 : List (Nat × Val)) (ap : List Nat) (i : Nat) (o : Oper) (n : Nat) (env : List (Nat × Val)) (σ : List AObj) (ds : List Dfr) (k : List Nat → St → Prop) (KP : AV → St → Prop) : Prop :=
  bif loud o then aop P T ρ env σ o (fun v σ' => St.put n env σ' ds o.dst v (fun S' => match S' with
      | ⟨n', env', σ'', ds'⟩ => recheck T ops env' σ'' (unreq ops i ap) (k (unreq ops i ap) ⟨n', env', σ'', ds'⟩))) (fun _ => False) (fun a σ' => KP a ⟨n, E0, σ', ds⟩)
  else aop P T ρ env σ o (fun v σ' => St.put n env σ' ds o.dst v (fun S' => k (i :: ap) S')) (fun _ => False) (fun _ _ => False)

def stepD (P : Program) (T : Tab) (ρ : Nat) (ops : Array Oper) (E0 : List (Nat × Val)) (ap : List Nat) (i : Nat) (o : Oper) (n : Nat) (env : List (Nat × Val)) (σ : List AObj) (ds : List Dfr) (k : List Nat → St → Prop) (KP : AV → St → Prop) : Prop :=
  match o.guard with
  | none => goD P T ρ ops E0 ap i o n env σ ds k KP
  | some (j, want) => match dstOf ops j with
    | none => False
    | some g => match get env g with
      | .c (.d (.bool b)) => match want with
        | true => bif b then goD P T ρ ops E0 ap i o n ((g, .c (.d (.bool true))) :: env) σ ds k KP
            else St.put n ((g, .c (.d (.bool false))) :: env) σ ds o.dst (.tup []) (k ap)
        | false => bif b then St.put n ((g, .c (.d (.bool true))) :: env) σ ds o.dst (.tup []) (k ap)
            else goD P T ρ ops E0 ap i o n ((g, .c (.d (.bool false))) :: env) σ ds k KP
      | .tup [] => St.put n env σ ds o.dst (.tup []) (k ap)
      | _ => False

def arunD (P : Program) (T : Tab) (ρ : Nat) (ops : Array Oper) (E0 : List (Nat × Val)) : List Nat → List Nat → St → (St → Prop) → (AV → St → Prop) → Prop
  | [], ap, S, K, KP => K S
  | i :: r, ap, S, K, KP => match ops[i]?, S with
    | some o, ⟨n, env, σ, ds⟩ => stepD P T ρ ops E0 ap i o n env σ ds (fun ap' S' => arunD P T ρ ops E0 r ap' S' K KP) KP
    | none, _ => False

/-! ### Slots that wait -/
def mask (ops : Array Oper) : List Nat → List (Nat × Val) → List (Nat × Val)
  | [], env => env
  | j :: l, env => match dstOf ops j with
    | some d => (d, .junk) :: mask ops l env
    | none => mask ops l env

theorem mask_get {ops : Array Oper} {env : List (Nat × Val)} {t : Nat} : ∀ {l : List Nat}, ((∃ j ∈ l, dstOf ops j = some t) ∧ get (mask ops l env) t = .junk) ∨ ((∀ j ∈ l, dstOf ops j ≠ some t) ∧ get (mask ops l env) t = get env t)
  | [] => .inr ⟨fun j h => by simp at h, rfl⟩
  | j :: l => by
    have ih := mask_get (ops := ops) (env := env) (t := t) (l := l)
    simp only [mask]
    cases hd : dstOf ops j with
    | none =>
      simp only
      rcases ih with ⟨⟨k, h1, h2⟩, h3⟩ | ⟨h1, h2⟩
      · exact .inl ⟨⟨k, by simp [h1], h2⟩, h3⟩
      · exact .inr ⟨fun k hk => by
          rcases List.mem_cons.1 hk with rfl | hk
          · rw [hd]; simp
          · exact h1 k hk, h2⟩
    | some d =>
      simp only [get_cons]
      by_cases e : d = t
      · subst e
        rw [if_pos rfl]
        exact .inl ⟨⟨j, by simp, hd⟩, rfl⟩
      · rw [if_neg e]
        rcases ih with ⟨⟨k, h1, h2⟩, h3⟩ | ⟨h1, h2⟩
        · exact .inl ⟨⟨k, by simp [h1], h2⟩, h3⟩
        · exact .inr ⟨fun k hk => by
            rcases List.mem_cons.1 hk with rfl | hk
            · rw [hd]; simpa using e
            · exact h1 k hk, h2⟩

theorem EnvOk.weak {w : World} {C : Cz} {a : Act} {n : Nat} {E E' : List (Nat × Val)} {σ : List AObj} {ds : List Dfr} (h : EnvOk w C a ⟨n, E, σ, ds⟩) (he : ∀ t, get E' t = .junk ∨ get E' t = get E t) : EnvOk w C a ⟨n, E', σ, ds⟩ :=
  ⟨h.size, fun t => by
    rcases he t with e | e
    · simp only [e]; exact .junk _
    · simp only [e]; exact h.env t, h.dlen, h.ds⟩

def putE (env : List (Nat × Val)) (d : Option Nat) (v : Val) : List (Nat × Val) := match d with
  | some d => (d, v) :: env
  | none => env

theorem put_spec {n : Nat} {env : List (Nat × Val)} {σ : List AObj} {ds : List Dfr} {d : Option Nat} {v : Val} {K : St → Prop} (h : St.put n env σ ds d v K) :
    (∀ x, d = some x → x < n) ∧ K ⟨n, putE env d v, σ, ds⟩ := by
  unfold St.put at h
  split at h
  · rename_i x
    cases hb : Nat.blt x n with
    | false => rw [hb] at h; exact h.elim
    | true =>
      rw [hb] at h
      simp only [forceV_eq, cond_true] at h
      exact ⟨fun y hy => by cases hy; exact blt_lt hb, h⟩
  · exact ⟨fun x hx => (by cases hx), h⟩

theorem putE_get {env : List (Nat × Val)} {d : Option Nat} {v : Val} {t : Nat} : get (putE env d v) t = if d = some t then v else get env t := by
  cases d with
  | none => simp [putE]
  | some x => simp [putE, get_cons]

/-! ### What waits -/
def wantA (ops : Array Oper) (env : List (Nat × Val)) (o : Oper) : Option Bool := match o.guard with
  | none => some true
  | some (j, want) => match dstOf ops j with
    | none => none
    | some g => match get env g with
      | .c (.d (.bool b)) => some (b == want)
      | .tup [] => some false
      | _ => none

theorem wantA_same {ops : Array Oper} {env env' : List (Nat × Val)} {o : Oper} (h : ∀ t ∈ reads ops o, get env t = get env' t) : wantA ops env o = wantA ops env' o := by
  unfold wantA
  unfold reads at h
  cases hg : o.guard with
  | none => rfl
  | some p =>
    obtain ⟨j, want⟩ := p
    simp only [hg] at h ⊢
    cases hd : dstOf ops j with
    | none => rfl
    | some g =>
      simp only [hd] at h ⊢
      rw [h g (by simp)]

def Pend (P : Program) (T : Tab) (ρ : Nat) (ops : Array Oper) (env : List (Nat × Val)) (σ : List AObj) (o : Oper) : Prop :=
  ∃ v, (∀ d, o.dst = some d → get env d = v) ∧ ((wantA ops env o = some false ∧ v = .tup []) ∨
    (wantA ops env o = some true ∧ loud o = false ∧ aop P T ρ env σ o (fun u τ => u = v ∧ τ = σ) (fun _ => False) (fun _ _ => False)))

theorem Pend.same {ρ : Nat} {ops : Array Oper} {env env' : List (Nat × Val)} {σ : List AObj} {o : Oper} (h : Pend P T ρ ops env σ o) (hr : ∀ t ∈ reads ops o, get env t = get env' t) (hd : ∀ d, o.dst = some d → get env' d = get env d) : Pend P T ρ ops env' σ o := by
  obtain ⟨v, h1, h2⟩ := h
  refine ⟨v, fun d e => (hd d e).trans (h1 d e), ?_⟩
  rw [← wantA_same hr]
  rcases h2 with h2 | ⟨h2, h3, h4⟩
  · exact .inl h2
  · exact .inr ⟨h2, h3, by rw [← aop_congr (ev_same fun t ht => hr t (by simp [reads, ht]))]; exact h4⟩

def RC (T : Tab) (env : List (Nat × Val)) (σ : List AObj) (o : Oper) (v : Val) : Prop :=
  match o.op with
  | .load t x => match ev env x with
    | .c (.d _) => True
    | p => aLoad T σ t p (fun u _ => u = v)
  | .indexAddr _ x _ => match ev env x with
    | .c (.d _) => True
    | .c (.full _ _ _) => True
    | _ => False
  | _ => True

theorem recheck_spec {ops : Array Oper} {env : List (Nat × Val)} {σ : List AObj} {X : Prop} : ∀ {l : List Nat}, recheck T ops env σ l X → X ∧ ∀ j ∈ l, ∀ o, ops[j]? = some o → ∀ v, (∀ d, o.dst = some d → get env d = v) → RC T env σ o v
  | [], h => ⟨h, fun j hj => by simp at hj⟩
  | j :: l, h => by
    simp only [recheck] at h
    have go : recheck T ops env σ l X → (∀ o, ops[j]? = some o → ∀ v, (∀ d, o.dst = some d → get env d = v) → RC T env σ o v) → X ∧ ∀ j' ∈ j :: l, ∀ o, ops[j']? = some o → ∀ v, (∀ d, o.dst = some d → get env d = v) → RC T env σ o v := fun h1 h2 =>
      ⟨(recheck_spec h1).1, fun j' hj' => by
        rcases List.mem_cons.1 hj' with rfl | hj'
        · exact h2
        · exact (recheck_spec h1).2 j' hj'⟩
    split at h
    · rename_i o ho
      split at h
      · rename_i t x hop
        split at h
        · rename_i y hx
          exact go h fun o' ho' v hv => by rw [ho] at ho'; cases ho'; simp only [RC, hop, hx]
        · rename_i hx
          split at h
          · rename_i d hd
            obtain ⟨v0, ⟨h1, h2⟩, h3⟩ := aLoad_det T σ t (ev env x) _ h
            refine go h2 fun o' ho' v hv => ?_
            rw [ho] at ho'; cases ho'
            unfold RC
            simp only [hop]
            rw [← hv d hd, ← h1]; exact h3
          · exact h.elim
      · rename_i t x i hop
        split at h
        · rename_i y hx
          exact go h fun o' ho' v hv => by rw [ho] at ho'; cases ho'; simp only [RC, hop, hx]
        · rename_i y1 y2 y3 hx
          exact go h fun o' ho' v hv => by rw [ho] at ho'; cases ho'; simp only [RC, hop, hx]
        · exact h.elim
      · rename_i hop1 hop2
        refine go h fun o' ho' v hv => ?_
        rw [ho] at ho'; cases ho'
        unfold RC
        split
        · rename_i t x e; exact absurd e (hop1 t x)
        · rename_i t x i e; exact absurd e (hop2 t x i)
        · trivial
    · exact h.elim

theorem indexAddr_σ {σ σ' : List AObj} {t : Nat} {x q : Val} {K : Val → Prop} (hx : (∃ y, x = .c (.d y)) ∨ ∃ r sz rows, x = .c (.full r sz rows)) : aIndexAddr T σ t x q K = aIndexAddr T σ' t x q K := by
  rcases hx with ⟨y, rfl⟩ | ⟨r, sz, rows, rfl⟩
  · cases y <;> (cases q with
      | c a => cases a with
        | d z => cases z <;> rfl
        | _ => rfl
      | _ => rfl)
  · cases q with
    | c a => cases a with
      | d z => cases z <;> rfl
      | _ => rfl
    | _ => rfl

theorem quiet_σ {ρ : Nat} {env : List (Nat × Val)} {σ σ' : List AObj} {o : Oper} {v : Val} (ho : loud o = false) (hk : aop P T ρ env σ o (fun u τ => u = v ∧ τ = σ) (fun _ => False) (fun _ _ => False))
    (hr : RC T env σ' o v) : aop P T ρ env σ' o (fun u τ => u = v ∧ τ = σ') (fun _ => False) (fun _ _ => False) := by
  unfold aop at hk ⊢
  unfold loud at ho
  unfold RC at hr
  split at ho <;> rename_i hop <;> simp only [hop] at hk hr ⊢
  · simpa using hk
  · simpa using hk
  · rw [aLoad_σ] at hk ⊢
    split at hr
    · rename_i y hx
      rw [hx] at hk ⊢
      simp only [and_true] at hk ⊢
      unfold aLoad at hk ⊢
      split at hk
      · exact hk.elim
      · rename_i ti hti
        simp only [hti]
        cases y <;> exact hk
    · simpa using hr
  · simpa using hk
  · simpa using hk
  · simpa using hk
  · simpa using hk
  · simpa using hk
  · simp only [and_true] at hk ⊢
    split at hr
    · rename_i y hx
      rw [indexAddr_σ (σ' := σ) (.inl ⟨y, hx⟩)]
      exact hk
    · rename_i y1 y2 y3 hx
      rw [indexAddr_σ (σ' := σ) (.inr ⟨y1, y2, y3, hx⟩)]
      exact hk
    · exact hr.elim
  · simpa using hk
  · split at ho
    · rename_i hcal
      simp only [hcal, fK_eq] at hk ⊢
      unfold aBuiltin at hk ⊢
      split at hk
      · rename_i hb
        rename_i t x e1 e2
        simp only [e1, e2]
        simpa using hk
      · rename_i hb _ _; cases hb
      · rename_i hb _; cases hb
      · rename_i hb _; cases hb
      · exact hk.elim
    · cases ho
  · cases ho

end
end Go.Proofs.Ytdhkopangbgehaa.E
