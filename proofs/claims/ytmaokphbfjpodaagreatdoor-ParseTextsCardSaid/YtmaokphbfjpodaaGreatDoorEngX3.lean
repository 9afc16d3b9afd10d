/- The engine's texts, merged (3 of 3): data for values, objects, contracts of calls, rules for the code. No conditions. -/
import Derived.Test.YtmaokphbfjpodaaGreatDoorEngX2
/- The engine, part 18: what an operation reads; the order of a drawn region. No conditions. -/
set_option linter.unusedVariables false
set_option linter.unusedSimpArgs false
set_option linter.unusedSectionVars false
namespace Go.Proofs.YtmaokphbfjpodaaGreatDoor.E
open Go

section
variable {P : Program} {T : Tab}

theorem aop_congr {ρ : Nat} {env env' : List (Nat × Val)} {σ : List AObj} {o : Oper} (h : ∀ x ∈ o.op.operands, ev env x = ev env' x) {K : Val → List AObj → Prop} {KD : Dfr → Prop} {KP : AV → List AObj → Prop} :
    aop P T ρ env σ o K KD KP = aop P T ρ env' σ o K KD KP := by
  obtain ⟨dst, op, type, pos, after, guard⟩ := o
  have pairs : ∀ ps : Array (Nat × Operand), (∀ x ∈ ps.toList.map (·.2), ev env x = ev env' x) →
      (ps.toList.map fun p => (p.1, ev env p.2)) = (ps.toList.map fun p => (p.1, ev env' p.2)) := fun ps hp =>
    List.map_congr_left fun p hm => by rw [hp p.2 (List.mem_map.2 ⟨p, hm, rfl⟩)]
  have arr : ∀ ps : Array Operand, (∀ x ∈ ps, ev env x = ev env' x) → ps.toList.map (ev env) = ps.toList.map (ev env') := fun ps hp =>
    List.map_congr_left fun x hm => hp x (by simpa using hm)
  have opt : ∀ ps : Option Operand, (∀ x ∈ ps.toArray, ev env x = ev env' x) → ps.map (ev env) = ps.map (ev env') := fun ps hp => by
    cases ps with
    | none => rfl
    | some x => simp [hp x (by simp)]
  unfold aop
  cases op <;> simp only [Op.operands] at h <;> simp only
  case build t ps => rw [pairs ps fun x hx => h x (by simpa using hx)]
  case buildSlice t n ps => rw [pairs ps fun x hx => h x (by simpa using hx)]
  case makeMap t r => rw [opt r h]
  case makeFunc fn first captured => rw [arr first fun x hx => h x (by simp [hx]), arr captured fun x hx => h x (by simp [hx])]
  case slice t x lo hi mx => rw [h x (by simp), opt lo fun y hy => h y (by simp only [Array.mem_append]; exact .inl (.inl (.inr hy))), opt hi fun y hy => h y (by simp only [Array.mem_append]; exact .inl (.inr hy)), opt mx fun y hy => h y (by simp only [Array.mem_append]; exact .inr hy)]
  case call c =>
    have ha := arr c.args fun x hx => h x (by simp [Call.operands, hx])
    rw [ha]
    split
    · rename_i f hf
      rw [h f (by simp [Call.operands, hf])]
    · rfl
    · rfl
  case defer c =>
    have ha := arr c.args fun x hx => h x (by simp [Call.operands, hx])
    rw [ha]
    split
    · rename_i f hf
      rw [h f (by simp [Call.operands, hf])]
    · rfl
  all_goals (first | rfl | (simp_all; done))

/-! ### What is read, what must come first -/
def opTmps (o : Oper) : List Nat := o.op.operands.toList.filterMap fun | .tmp t => some t | _ => none
def reads (ops : Array Oper) (o : Oper) : List Nat :=
  opTmps o ++ (match o.guard with
    | some (g, _) => (match dstOf ops g with | some d => [d] | none => [])
    | none => [])

theorem ev_same {env env' : List (Nat × Val)} {o : Oper} (h : ∀ t ∈ opTmps o, get env t = get env' t) : ∀ x ∈ o.op.operands, ev env x = ev env' x := fun x hx => by
  cases x with
  | tmp t => exact h t (List.mem_filterMap.2 ⟨.tmp t, by simpa using hx, rfl⟩)
  | _ => rfl

def aftE : List Edge → Nat → Bool
  | [], _ => false
  | e :: l, m => (Region.binds .any e && Nat.beq e.on m) || aftE l m
def aft (ops : Array Oper) (m j : Nat) : Bool := match ops[j]? with
  | some o => aftE o.after.toList m
  | none => false

theorem aftE_mem : ∀ {l : List Edge} {m : Nat}, aftE l m = true → ∃ e ∈ l, Region.binds .any e = true ∧ e.on = m
  | e :: l, m, h => by
    simp only [aftE, Bool.or_eq_true, Bool.and_eq_true] at h
    rcases h with ⟨h1, h2⟩ | h
    · exact ⟨e, by simp, h1, Nat.eq_of_beq_eq_true h2⟩
    · obtain ⟨e', h1, h2⟩ := aftE_mem h
      exact ⟨e', by simp [h1], h2⟩
theorem aft_mem {ops : Array Oper} {m j : Nat} (h : aft ops m j = true) : ∃ o, ops[j]? = some o ∧ ∃ e ∈ o.after, Region.binds .any e = true ∧ e.on = m := by
  unfold aft at h
  split at h
  · rename_i o ho
    obtain ⟨e, h1, h2⟩ := aftE_mem h
    exact ⟨o, ho, e, by simpa using h1, h2⟩
  · cases h

/-- The rest of the order is as the edges want it. -/
def resp (ops : Array Oper) : List Nat → Bool
  | [] => true
  | i :: r => !aft ops i i && r.all (fun m => !aft ops m i) && resp ops r

def loudAt (ops : Array Oper) (i : Nat) : Bool := match ops[i]? with
  | some o => loud o
  | none => true

def seg (ops : Array Oper) (L : List Nat) : List Nat → Bool
  | [] => true
  | j :: r => L.any (fun m => aft ops m j) && (loudAt ops j || seg ops (j :: L) r)
def good (ops : Array Oper) : List Nat → Bool
  | [] => true
  | i :: r => (!loudAt ops i || seg ops [i] r) && good ops r

theorem seg_spec {ops : Array Oper} {X : List Nat} : ∀ {r L : List Nat}, seg ops L r = true → good ops r = true → (∀ m ∈ L, m ∈ X) → (∀ m ∈ r, m ∈ X) → ∀ j ∈ r, ∃ m ∈ X, aft ops m j = true
  | h :: t, L, hs, hg, hL, hr, j, hj => by
    simp only [seg, Bool.and_eq_true, List.any_eq_true, Bool.or_eq_true] at hs
    simp only [good, Bool.and_eq_true] at hg
    obtain ⟨⟨m, hm, hb⟩, hs2⟩ := hs
    rcases List.mem_cons.1 hj with rfl | hj
    · exact ⟨m, hL m hm, hb⟩
    · rcases hs2 with hl | hs2
      · have hg1 := hg.1
        rw [hl] at hg1
        exact seg_spec (L := [h]) (by simpa using hg1) hg.2 (fun m hm => by simp at hm; subst hm; exact hr m (by simp)) (fun m hm => hr m (by simp [hm])) j hj
      · exact seg_spec hs2 hg.2 (fun m hm => by
          rcases List.mem_cons.1 hm with rfl | hm
          · exact hr m (by simp)
          · exact hL m hm) (fun m hm => hr m (by simp [hm])) j hj

theorem good_spec {ops : Array Oper} {i : Nat} {r : List Nat} (hg : good ops (i :: r) = true) (hl : loudAt ops i = true) : ∀ j ∈ r, ∃ m ∈ i :: r, aft ops m j = true := by
  simp only [good, Bool.and_eq_true, Bool.or_eq_true, hl] at hg
  exact seg_spec (X := i :: r) (by simpa using hg.1) hg.2 (fun m hm => by simp at hm; simp [hm]) (fun m hm => by simp [hm])

/-- Slots are written by one operation each, and read in order. -/
def apart1 (ops : Array Oper) (n : Nat) (j : Nat) (oj : Oper) : Nat → Bool
  | 0 => true
  | m + 1 => (match ops[m]? with
      | none => true
      | some om => match om.dst with
        | none => true
        | some d => (Nat.beq m j || (match oj.dst with | some d' => !Nat.beq d' d | none => true)) &&
            (!(reads ops oj).any (fun t => Nat.beq t d) || aft ops m j || (loud om && (Nat.beq m j || aft ops j m)))) && apart1 ops n j oj m
def apartB (ops : Array Oper) (n : Nat) : Nat → Bool
  | 0 => true
  | j + 1 => (match ops[j]? with
      | none => true
      | some oj => oj.after.toList.all (fun e => !Region.binds .any e || Nat.blt e.on j) && apart1 ops n j oj n) && apartB ops n j

theorem apart1_spec {ops : Array Oper} {n j : Nat} {oj : Oper} : ∀ {k : Nat}, apart1 ops n j oj k = true → ∀ m, m < k → ∀ om d, ops[m]? = some om → om.dst = some d →
    (m = j ∨ oj.dst ≠ some d) ∧ (d ∈ reads ops oj → aft ops m j = true ∨ (loud om = true ∧ (m = j ∨ aft ops j m = true)))
  | k + 1, h, m, hm, om, d, ho, hd => by
    simp only [apart1, Bool.and_eq_true] at h
    by_cases e : m = k
    · subst e
      have h1 := h.1
      simp only [ho, hd, Bool.and_eq_true, Bool.or_eq_true] at h1
      obtain ⟨h2, h3⟩ := h1
      refine ⟨?_, fun hr => ?_⟩
      · rcases h2 with h2 | h2
        · exact .inl (Nat.eq_of_beq_eq_true h2)
        · right
          intro hh
          simp [hh] at h2
      · rcases h3 with (h3 | h3) | h3
        · exfalso
          simp at h3
          exact h3 d hr rfl
        · exact .inl h3
        · rcases h3 with ⟨h3, h4⟩
          right
          refine ⟨h3, ?_⟩
          rcases h4 with h4 | h4
          · exact .inl (Nat.eq_of_beq_eq_true h4)
          · exact .inr h4
    · exact apart1_spec h.2 m (by omega) om d ho hd

theorem apartB_spec {ops : Array Oper} {n : Nat} : ∀ {k : Nat}, apartB ops n k = true → ∀ j, j < k → ∀ oj, ops[j]? = some oj →
    (∀ e ∈ oj.after, Region.binds .any e = true → e.on < j) ∧ apart1 ops n j oj n = true
  | k + 1, h, j, hj, oj, ho => by
    simp only [apartB, Bool.and_eq_true] at h
    by_cases e : j = k
    · subst e
      have h1 := h.1
      simp only [ho, Bool.and_eq_true, List.all_eq_true, Bool.or_eq_true] at h1
      refine ⟨fun e he hb => ?_, h1.2⟩
      have := h1.1 e (by simpa using he)
      rw [hb] at this
      exact blt_lt (by simpa using this)
    · exact apartB_spec h.2 j (by omega) oj ho

def inB : List Nat → Nat → Bool
  | [], _ => false
  | j :: l, i => Nat.beq j i || inB l i
theorem inB_mem : ∀ {l : List Nat} {i : Nat}, inB l i = true ↔ i ∈ l
  | [], i => by simp [inB]
  | j :: l, i => by
    simp only [inB, Bool.or_eq_true, inB_mem, List.mem_cons]
    constructor
    · rintro (h | h)
      · exact .inl (Nat.eq_of_beq_eq_true h).symm
      · exact .inr h
    · rintro (h | h)
      · subst h; exact .inl (by simp)
      · exact .inr h
def nodB : List Nat → Bool
  | [] => true
  | i :: l => !inB l i && nodB l
theorem nodB_nodup : ∀ {l : List Nat}, nodB l = true → l.Nodup
  | [], _ => List.nodup_nil
  | i :: l, h => by
    simp only [nodB, Bool.and_eq_true] at h
    refine List.nodup_cons.2 ⟨fun hm => ?_, nodB_nodup h.2⟩
    have := h.1
    rw [inB_mem.2 hm] at this; cases this
def coverB (ord : List Nat) : Nat → Bool
  | 0 => true
  | j + 1 => inB ord j && coverB ord j
theorem coverB_mem {ord : List Nat} : ∀ {n : Nat}, coverB ord n = true → ∀ j, j < n → j ∈ ord
  | n + 1, h, j, hj => by
    simp only [coverB, Bool.and_eq_true] at h
    by_cases e : j = n
    · subst e; exact inB_mem.1 h.1
    · exact coverB_mem h.2 j (by omega)
def permB (n : Nat) (ord : List Nat) : Bool := coverB ord n && ltB n ord && nodB ord

def statB (ops : Array Oper) (ord : List Nat) : Bool :=
  permB ops.size ord && resp ops ord && good ops ord && apartB ops ops.size ops.size

end
end Go.Proofs.YtmaokphbfjpodaaGreatDoor.E

/- The engine, part 19: regions whose order is drawn: one order tells for all. No conditions. -/
set_option linter.unusedVariables false
set_option linter.unusedSimpArgs false
set_option linter.unusedSectionVars false
namespace Go.Proofs.YtmaokphbfjpodaaGreatDoor.E
open Go

section
variable {P : Program} {T : Tab}

/-! ### The run in one order -/
def recheck (T : Tab) (ops : Array Oper) (env : List (Nat × Val)) (σ : List AObj) : List Nat → Prop → Prop
  | [], X => X
  | j :: l, X => match ops[j]? with
    | some o => match o.op with
      | .load t x => match ev env x with
        | .c (.d _) => recheck T ops env σ l X
        | p => match o.dst with
          | some d => aLoadR T σ t p (fun u _ => u = get env d ∧ recheck T ops env σ l X)
          | none => False
      | .indexAddr _ x _ => match ev env x with
        | .c (.d _) => recheck T ops env σ l X
        | .c (.full _ _ _) => recheck T ops env σ l X
        | .c (.ptr _ _) => recheck T ops env σ l X
        | _ => False
      | .binOp _ _ x _ _ => match ev env x with
        | .c (.own _ _) => False
        | _ => recheck T ops env σ l X
      | _ => recheck T ops env σ l X
    | none => False

def isLd (ops : Array Oper) (j : Nat) : Bool := match ops[j]? with
  | some o => match o.op with
    | .load _ _ => true
    | _ => false
  | none => false
def aft2E (ops : Array Oper) : List Edge → Nat → Bool
  | [], _ => false
  | e :: l, m => (Region.binds .any e && aft ops m e.on) || aft2E ops l m
/-- What comes before something that comes before. -/
def aft2 (ops : Array Oper) (m j : Nat) : Bool := match ops[j]? with
  | some o => aft2E ops o.after.toList m
  | none => false
def gone (ops : Array Oper) (j i : Nat) : Bool := bif aft ops j i then true else bif isLd ops j then aft2 ops j i else false
def unreq (ops : Array Oper) (i : Nat) : List Nat → List Nat
  | [] => []
  | j :: l => bif gone ops j i then unreq ops i l else j :: unreq ops i l
theorem aft2E_mem {ops : Array Oper} : ∀ {l : List Edge} {m : Nat}, aft2E ops l m = true → ∃ e ∈ l, Region.binds .any e = true ∧ aft ops m e.on = true
  | e :: l, m, h => by
    simp only [aft2E, Bool.or_eq_true, Bool.and_eq_true] at h
    rcases h with ⟨h1, h2⟩ | h
    · exact ⟨e, by simp, h1, h2⟩
    · obtain ⟨e', h1, h2⟩ := aft2E_mem h
      exact ⟨e', by simp [h1], h2⟩
theorem aft_of {ops : Array Oper} {j : Nat} {o : Oper} (ho : ops[j]? = some o) {e : Edge} (he : e ∈ o.after) (hb : Region.binds .any e = true) : aft ops e.on j = true := by
  have key : ∀ l : List Edge, e ∈ l → aftE l e.on = true := fun l => by
    induction l with
    | nil => intro h; cases h
    | cons x l ih =>
      intro h
      simp only [aftE, Bool.or_eq_true, Bool.and_eq_true]
      rcases List.mem_cons.1 h with rfl | h
      · exact .inl ⟨hb, Nat.beq_refl _⟩
      · exact .inr (ih h)
  unfold aft
  rw [ho]
  exact key _ (by simpa using he)
theorem aft2_mem {ops : Array Oper} {m j : Nat} (h : aft2 ops m j = true) : ∃ k, aft ops k j = true ∧ aft ops m k = true := by
  unfold aft2 at h
  split at h
  · rename_i o ho
    obtain ⟨e, h1, h2, h3⟩ := aft2E_mem h
    exact ⟨e.on, aft_of ho (by simpa using h1) h2, h3⟩
  · cases h
theorem gone_false {ops : Array Oper} {j i : Nat} (h1 : aft ops j i = false) (h2 : aft2 ops j i = false) : gone ops j i = false := by
  unfold gone; rw [h1, h2]; cases isLd ops j <;> rfl

def goD (P : Program) (T : Tab) (ρ : Nat) (ops : Array Oper) (E0 : List (Nat × Val)) (ap : List Nat) (i : Nat) (o : Oper) (n : Nat) (env : List (Nat × Val)) (σ : List AObj) (ds : List Dfr) (k : List Nat → St → Prop) (KP : AV → St → Prop) : Prop :=
  bif loud o then aop P T ρ env σ o (fun v σ' => St.put n env σ' ds o.dst v (fun S' => match S' with
      | ⟨n', env', σ'', ds'⟩ => recheck T ops env' σ'' (unreq ops i ap) (k (unreq ops i ap) ⟨n', env', σ'', ds'⟩))) (fun _ => False) (fun a σ' => KP a ⟨n, E0, σ', ds⟩)
  else bif qok env o then aop P T ρ env σ o (fun v σ' => St.put n env σ' ds o.dst v (fun S' => k (i :: ap) S')) (fun _ => False) (fun _ _ => False) else False

def stepD (P : Program) (T : Tab) (ρ : Nat) (ops : Array Oper) (E0 : List (Nat × Val)) (ap : List Nat) (i : Nat) (o : Oper) (n : Nat) (env : List (Nat × Val)) (σ : List AObj) (ds : List Dfr) (k : List Nat → St → Prop) (KP : AV → St → Prop) : Prop :=
  match o.guard with
  | none => goD P T ρ ops E0 ap i o n env σ ds k KP
  | some (j, want) => match dstOf ops j with
    | none => False
    | some g => match get env g with
      | .c (.d (.bool b)) => match want with
        | true => bif b then goD P T ρ ops E0 ap i o n ((g, .c (.d (.bool true))) :: env) σ ds k KP
            else St.put n ((g, .c (.d (.bool false))) :: env) σ ds o.dst (.tup []) (k ap)
        | false => bif b then St.put n ((g, .c (.d (.bool true))) :: env) σ ds o.dst (.tup []) (k ap)
            else goD P T ρ ops E0 ap i o n ((g, .c (.d (.bool false))) :: env) σ ds k KP
      | .tup [] => St.put n env σ ds o.dst (.tup []) (k ap)
      | _ => False

def arunD (P : Program) (T : Tab) (ρ : Nat) (ops : Array Oper) (E0 : List (Nat × Val)) : List Nat → List Nat → St → (St → Prop) → (AV → St → Prop) → Prop
  | [], ap, S, K, KP => K S
  | i :: r, ap, S, K, KP => match ops[i]?, S with
    | some o, ⟨n, env, σ, ds⟩ => stepD P T ρ ops E0 ap i o n env σ ds (fun ap' S' => arunD P T ρ ops E0 r ap' S' K KP) KP
    | none, _ => False

/-! ### Slots that wait -/
def mask (ops : Array Oper) : List Nat → List (Nat × Val) → List (Nat × Val)
  | [], env => env
  | j :: l, env => match dstOf ops j with
    | some d => (d, .junk) :: mask ops l env
    | none => mask ops l env

theorem mask_get {ops : Array Oper} {env : List (Nat × Val)} {t : Nat} : ∀ {l : List Nat}, ((∃ j ∈ l, dstOf ops j = some t) ∧ get (mask ops l env) t = .junk) ∨ ((∀ j ∈ l, dstOf ops j ≠ some t) ∧ get (mask ops l env) t = get env t)
  | [] => .inr ⟨fun j h => by simp at h, rfl⟩
  | j :: l => by
    have ih := mask_get (ops := ops) (env := env) (t := t) (l := l)
    simp only [mask]
    cases hd : dstOf ops j with
    | none =>
      simp only
      rcases ih with ⟨⟨k, h1, h2⟩, h3⟩ | ⟨h1, h2⟩
      · exact .inl ⟨⟨k, by simp [h1], h2⟩, h3⟩
      · exact .inr ⟨fun k hk => by
          rcases List.mem_cons.1 hk with rfl | hk
          · rw [hd]; simp
          · exact h1 k hk, h2⟩
    | some d =>
      simp only [get_cons]
      by_cases e : d = t
      · subst e
        rw [if_pos rfl]
        exact .inl ⟨⟨j, by simp, hd⟩, rfl⟩
      · rw [if_neg e]
        rcases ih with ⟨⟨k, h1, h2⟩, h3⟩ | ⟨h1, h2⟩
        · exact .inl ⟨⟨k, by simp [h1], h2⟩, h3⟩
        · exact .inr ⟨fun k hk => by
            rcases List.mem_cons.1 hk with rfl | hk
            · rw [hd]; simpa using e
            · exact h1 k hk, h2⟩

theorem EnvOk.weak {w : World} {C : Cz} {a : Act} {n : Nat} {E E' : List (Nat × Val)} {σ : List AObj} {ds : List Dfr} (h : EnvOk w C a ⟨n, E, σ, ds⟩) (he : ∀ t, get E' t = .junk ∨ get E' t = get E t) : EnvOk w C a ⟨n, E', σ, ds⟩ :=
  ⟨h.size, fun t => by
    rcases he t with e | e
    · simp only [e]; exact .junk _
    · simp only [e]; exact h.env t, h.dlen, h.ds⟩

def putE (env : List (Nat × Val)) (d : Option Nat) (v : Val) : List (Nat × Val) := match d with
  | some d => (d, v) :: env
  | none => env

theorem put_spec {n : Nat} {env : List (Nat × Val)} {σ : List AObj} {ds : List Dfr} {d : Option Nat} {v : Val} {K : St → Prop} (h : St.put n env σ ds d v K) :
    (∀ x, d = some x → x < n) ∧ K ⟨n, putE env d v, σ, ds⟩ := by
  unfold St.put at h
  split at h
  · rename_i x
    cases hb : Nat.blt x n with
    | false => rw [hb] at h; exact h.elim
    | true =>
      rw [hb] at h
      simp only [forceV_eq, cond_true] at h
      exact ⟨fun y hy => by cases hy; exact blt_lt hb, h⟩
  · exact ⟨fun x hx => (by cases hx), h⟩

theorem putE_get {env : List (Nat × Val)} {d : Option Nat} {v : Val} {t : Nat} : get (putE env d v) t = if d = some t then v else get env t := by
  cases d with
  | none => simp [putE]
  | some x => simp [putE, get_cons]

/-! ### What waits -/
def wantA (ops : Array Oper) (env : List (Nat × Val)) (o : Oper) : Option Bool := match o.guard with
  | none => some true
  | some (j, want) => match dstOf ops j with
    | none => none
    | some g => match get env g with
      | .c (.d (.bool b)) => some (b == want)
      | .tup [] => some false
      | _ => none

theorem wantA_same {ops : Array Oper} {env env' : List (Nat × Val)} {o : Oper} (h : ∀ t ∈ reads ops o, get env t = get env' t) : wantA ops env o = wantA ops env' o := by
  unfold wantA
  unfold reads at h
  cases hg : o.guard with
  | none => rfl
  | some p =>
    obtain ⟨j, want⟩ := p
    simp only [hg] at h ⊢
    cases hd : dstOf ops j with
    | none => rfl
    | some g =>
      simp only [hd] at h ⊢
      rw [h g (by simp)]

def Pend (P : Program) (T : Tab) (ρ : Nat) (ops : Array Oper) (env : List (Nat × Val)) (σ : List AObj) (o : Oper) : Prop :=
  ∃ v, (∀ d, o.dst = some d → get env d = v) ∧ ((wantA ops env o = some false ∧ v = .tup []) ∨
    (wantA ops env o = some true ∧ (loud o = false ∧ qok env o = true) ∧ aop P T ρ env σ o (fun u τ => u = v ∧ τ = σ) (fun _ => False) (fun _ _ => False)))

theorem qok_congr {env env' : List (Nat × Val)} {o : Oper} (h : ∀ x ∈ o.op.operands, ev env x = ev env' x) : qok env o = qok env' o := by
  unfold qok
  split
  · rename_i t n ps hop
    rw [hop] at h
    congr 1
    refine List.map_congr_left fun p hp => ?_
    rw [h p.2 (by simp [Op.operands]; exact ⟨p.1, by simpa using hp⟩)]
  · rename_i t x hop
    rw [hop] at h
    rw [h x (by simp [Op.operands])]
  · rfl
theorem Pend.same {ρ : Nat} {ops : Array Oper} {env env' : List (Nat × Val)} {σ : List AObj} {o : Oper} (h : Pend P T ρ ops env σ o) (hr : ∀ t ∈ reads ops o, get env t = get env' t) (hd : ∀ d, o.dst = some d → get env' d = get env d) : Pend P T ρ ops env' σ o := by
  obtain ⟨v, h1, h2⟩ := h
  refine ⟨v, fun d e => (hd d e).trans (h1 d e), ?_⟩
  rw [← wantA_same hr]
  rcases h2 with h2 | ⟨h2, h3, h4⟩
  · exact .inl h2
  · exact .inr ⟨h2, ⟨h3.1, by rw [← qok_congr (ev_same fun t ht => hr t (by simp [reads, ht]))]; exact h3.2⟩, by rw [← aop_congr (ev_same fun t ht => hr t (by simp [reads, ht]))]; exact h4⟩

def RC (T : Tab) (env : List (Nat × Val)) (σ : List AObj) (o : Oper) (v : Val) : Prop :=
  match o.op with
  | .load t x => match ev env x with
    | .c (.d _) => True
    | p => aLoadR T σ t p (fun u _ => u = v)
  | .indexAddr _ x _ => match ev env x with
    | .c (.d _) => True
    | .c (.full _ _ _) => True
    | .c (.ptr _ _) => True
    | _ => False
  | .binOp _ _ x _ _ => match ev env x with
    | .c (.own _ _) => False
    | _ => True
  | _ => True

theorem recheck_spec {ops : Array Oper} {env : List (Nat × Val)} {σ : List AObj} {X : Prop} : ∀ {l : List Nat}, recheck T ops env σ l X → X ∧ ∀ j ∈ l, ∀ o, ops[j]? = some o → ∀ v, (∀ d, o.dst = some d → get env d = v) → RC T env σ o v
  | [], h => ⟨h, fun j hj => by simp at hj⟩
  | j :: l, h => by
    simp only [recheck] at h
    have go : recheck T ops env σ l X → (∀ o, ops[j]? = some o → ∀ v, (∀ d, o.dst = some d → get env d = v) → RC T env σ o v) → X ∧ ∀ j' ∈ j :: l, ∀ o, ops[j']? = some o → ∀ v, (∀ d, o.dst = some d → get env d = v) → RC T env σ o v := fun h1 h2 =>
      ⟨(recheck_spec h1).1, fun j' hj' => by
        rcases List.mem_cons.1 hj' with rfl | hj'
        · exact h2
        · exact (recheck_spec h1).2 j' hj'⟩
    split at h
    · rename_i o ho
      split at h
      · rename_i t x hop
        split at h
        · rename_i y hx
          exact go h fun o' ho' v hv => by rw [ho] at ho'; cases ho'; simp only [RC, hop, hx]
        · rename_i hx
          split at h
          · rename_i d hd
            obtain ⟨v0, ⟨h1, h2⟩, h3⟩ := aLoadR_det T σ t (ev env x) _ h
            refine go h2 fun o' ho' v hv => ?_
            rw [ho] at ho'; cases ho'
            unfold RC
            simp only [hop]
            rw [← hv d hd, ← h1]; exact h3
          · exact h.elim
      · rename_i t x i hop
        split at h
        · rename_i y hx
          exact go h fun o' ho' v hv => by rw [ho] at ho'; cases ho'; simp only [RC, hop, hx]
        · rename_i y1 y2 y3 hx
          exact go h fun o' ho' v hv => by rw [ho] at ho'; cases ho'; simp only [RC, hop, hx]
        · rename_i y1 y2 hx
          exact go h fun o' ho' v hv => by rw [ho] at ho'; cases ho'; simp only [RC, hop, hx]
        · exact h.elim
      · rename_i op t x y z hop
        split at h
        · exact h.elim
        · rename_i hx
          refine go h fun o' ho' v hv => ?_
          rw [ho] at ho'; cases ho'
          unfold RC
          simp only [hop]
      · rename_i hop1 hop2 hop3
        refine go h fun o' ho' v hv => ?_
        rw [ho] at ho'; cases ho'
        unfold RC
        split
        · rename_i t x e; exact absurd e (hop1 t x)
        · rename_i t x i e; exact absurd e (hop2 t x i)
        · rename_i op t x y z e; exact absurd e (hop3 op t x y z)
        · trivial
    · exact h.elim

theorem indexAddr_σ {σ σ' : List AObj} {t : Nat} {x q : Val} {K : Val → Prop} (hx : (∃ y, x = .c (.d y)) ∨ (∃ r sz rows, x = .c (.full r sz rows)) ∨ ∃ o f, x = .c (.ptr o f)) : aIndexAddr T σ t x q K = aIndexAddr T σ' t x q K := by
  rcases hx with ⟨y, rfl⟩ | ⟨r, sz, rows, rfl⟩ | ⟨o, f, rfl⟩
  · cases y <;> (cases q with
      | c a => cases a with
        | d z => cases z <;> rfl
        | _ => rfl
      | _ => rfl)
  · cases q with
    | c a => cases a with
      | d z => cases z <;> rfl
      | _ => rfl
    | _ => rfl
  · cases q with
    | c a => cases a with
      | d z => cases z <;> rfl
      | _ => rfl
    | _ => rfl

theorem quiet_σ {ρ : Nat} {env : List (Nat × Val)} {σ σ' : List AObj} {o : Oper} {v : Val} (ho' : loud o = false ∧ qok env o = true) (hk : aop P T ρ env σ o (fun u τ => u = v ∧ τ = σ) (fun _ => False) (fun _ _ => False))
    (hr : RC T env σ' o v) : aop P T ρ env σ' o (fun u τ => u = v ∧ τ = σ') (fun _ => False) (fun _ _ => False) := by
  obtain ⟨ho, hqk⟩ := ho'
  unfold aop at hk ⊢
  unfold loud at ho
  unfold RC at hr
  split at ho <;> rename_i hop <;> simp only [hop] at hk hr ⊢
  · simpa using hk
  · simpa using hk
  · have hq := hqk
    unfold qok at hq
    simp only [hop] at hq
    simp only [aLoadW_of hq] at hk ⊢
    rw [aLoadR_σ] at hk ⊢
    split at hr
    · rename_i y hx
      rw [hx] at hk ⊢
      simp only [and_true, aLoadR] at hk ⊢
      unfold aLoad at hk ⊢
      split at hk
      · exact hk.elim
      · rename_i ti hti
        simp only [hti]
        cases y <;> exact hk
    · simpa using hr
  · simpa using hk
  · simp only [and_true] at hk ⊢
    unfold aBinS at hk ⊢
    split at hr
    · exact hr.elim
    · rename_i hx
      split at hk
      · rename_i a b e; exact (hx a b e).elim
      · exact hk
  · simpa using hk
  · simpa using hk
  · simpa using hk
  · simp only [and_true] at hk ⊢
    split at hr
    · rename_i y hx
      rw [indexAddr_σ (σ' := σ) (.inl ⟨y, hx⟩)]
      exact hk
    · rename_i y1 y2 y3 hx
      rw [indexAddr_σ (σ' := σ) (.inr (.inl ⟨y1, y2, y3, hx⟩))]
      exact hk
    · rename_i y1 y2 hx
      rw [indexAddr_σ (σ' := σ) (.inr (.inr ⟨y1, y2, hx⟩))]
      exact hk
    · exact hr.elim
  · simpa using hk
  · unfold qok at hqk
    simp only [hop] at hqk
    simp only [fK_eq] at hk ⊢
    rcases aBuildSlice_pure T ρ _ _ _ hqk with ⟨u, hv⟩ | hv
    · rw [hv] at hk ⊢
      exact ⟨hk.1, rfl⟩
    · rw [hv] at hk; exact hk.elim
  · split at ho
    · rename_i hcal
      simp only [hcal, fK_eq] at hk ⊢
      unfold aBuiltin at hk ⊢
      split at hk
      · rename_i hb
        rename_i t x e1 e2
        simp only [e1, e2]
        simpa using hk
      · rename_i hb _ _; cases hb
      · rename_i hb _; cases hb
      · rename_i hb _; cases hb
      · rename_i hb _ _; cases hb
      · exact hk.elim
    · cases ho
  · cases ho

end
end Go.Proofs.YtmaokphbfjpodaaGreatDoor.E

/- The engine, part 20: the rule for regions whose order is drawn. No conditions. -/
set_option linter.unusedVariables false
set_option linter.unusedSimpArgs false
set_option linter.unusedSectionVars false
namespace Go.Proofs.YtmaokphbfjpodaaGreatDoor.E
open Go

section
variable {P : Program} {T : Tab} (HT : TabOk P T)

/-- What holds while a drawn region runs: 'pend' is told of but not done, 'rest' is neither. -/
structure Sim (P : Program) (T : Tab) (ρ : Nat) (ops : Array Oper) (E0 : List (Nat × Val)) (w0 : World) (C0 : Cz) (σ0 : List AObj) (listed : Array Bool) (pend rest ap : List Nat) (n : Nat) (env : List (Nat × Val)) (σ : List AObj) (ds : List Dfr)
    (a : Act) (w : World) (C : Cz) : Prop where
  size : listed.size = ops.size
  lst : ∀ j, j < ops.size → (listed.getD j true = false ↔ j ∈ pend ∨ j ∈ rest)
  lt : ∀ j, j ∈ pend ∨ j ∈ rest → j < ops.size
  nd : (pend ++ rest).Nodup
  rsp : resp ops rest = true
  gd : good ops rest = true
  hI : Inv w C σ
  hE : EnvOk w C a ⟨n, mask ops pend env, σ, ds⟩
  hX : Ext w0 C0 σ0 w C σ
  pok : ∀ j ∈ pend, ∀ o, ops[j]? = some o → Pend P T ρ ops env σ o ∧ (wantA ops env o = some true → j ∈ ap)
  pq : ∀ j ∈ pend, ∀ o, ops[j]? = some o → loud o = false ∧ ∀ d, o.dst = some d → d < n
  cl : ∀ j m, j < ops.size → j ∉ rest → aft ops m j = true → m ∉ rest
  e0 : ∀ t, get E0 t = .junk ∨ ((∀ (j : Nat) (o : Oper), ops[j]? = some o → o.dst ≠ some t) ∧ get E0 t = get env t)
  cl2 : ∀ k m, k < ops.size → k ∉ pend → k ∉ rest → aft ops m k = true → m ∉ pend

theorem dstOf_some {ops : Array Oper} {j : Nat} {o : Oper} (h : ops[j]? = some o) : dstOf ops j = o.dst := by
  unfold dstOf; rw [h]
theorem dstOf_op {ops : Array Oper} {j d : Nat} (h : dstOf ops j = some d) : ∃ o, ops[j]? = some o ∧ o.dst = some d := by
  unfold dstOf at h
  split at h
  · rename_i o ho; exact ⟨o, ho, h⟩
  · cases h

def Apart (ops : Array Oper) : Prop := ∀ (m j : Nat) (om oj : Oper) (d : Nat), ops[m]? = some om → ops[j]? = some oj → om.dst = some d →
  (m = j ∨ oj.dst ≠ some d) ∧ (d ∈ reads ops oj → aft ops m j = true ∨ (loud om = true ∧ (m = j ∨ aft ops j m = true)))

variable {ρ : Nat} {ops : Array Oper} {E0 : List (Nat × Val)} {w0 : World} {C0 : Cz} {σ0 : List AObj} {listed : Array Bool} {pend rest ap : List Nat} {n : Nat} {env : List (Nat × Val)} {σ : List AObj} {ds : List Dfr} {a : Act} {w : World} {C : Cz}

/-- The same slots, told otherwise. -/
theorem Sim.told {env1 : List (Nat × Val)} (h : Sim P T ρ ops E0 w0 C0 σ0 listed pend rest ap n env σ ds a w C) (he : ∀ t, get env1 t = get env t) : Sim P T ρ ops E0 w0 C0 σ0 listed pend rest ap n env1 σ ds a w C :=
  { h with
    hE := h.hE.weak fun t => by
      rcases mask_get (ops := ops) (env := env1) (t := t) (l := pend) with ⟨_, h2⟩ | ⟨h1, h2⟩
      · exact .inl h2
      · right
        rw [h2, he]
        rcases mask_get (ops := ops) (env := env) (t := t) (l := pend) with ⟨⟨j, h3, h4⟩, _⟩ | ⟨_, h3⟩
        · exact absurd h4 (h1 j h3)
        · exact h3.symm
    pok := fun j hj o ho => ⟨(h.pok j hj o ho).1.same (fun t _ => (he t).symm) (fun d _ => he d), fun hw => (h.pok j hj o ho).2 (by rw [← wantA_same (env := env1) fun t _ => he t]; exact hw)⟩
    e0 := fun t => by
      rcases h.e0 t with e | ⟨e1, e2⟩
      · exact .inl e
      · exact .inr ⟨e1, by rw [e2, he]⟩ }

theorem resp_head {i : Nat} {r : List Nat} (h : resp ops (i :: r) = true) : (∀ m ∈ i :: r, aft ops m i = false) ∧ resp ops r = true := by
  simp only [resp, Bool.and_eq_true, List.all_eq_true] at h
  refine ⟨fun m hm => ?_, h.2⟩
  rcases List.mem_cons.1 hm with rfl | hm
  · simpa using h.1.1
  · simpa using h.1.2 m hm

/-- The head of the rest is told of. -/
theorem Sim.push (hA : Apart ops) {h : Nat} {r ap' : List Nat} (H : Sim P T ρ ops E0 w0 C0 σ0 listed pend (h :: r) ap n env σ ds a w C) {o : Oper} (ho : ops[h]? = some o) (hqq : loud o = false) (hdl : ∀ d, o.dst = some d → d < n) {v : Val}
    (hp : Pend P T ρ ops (putE env o.dst v) σ o) (hap : wantA ops (putE env o.dst v) o = some true → h ∈ ap') (hsub : ∀ j ∈ ap, j ∈ ap')
    (hrd : ∀ j ∈ pend, ∀ oj, ops[j]? = some oj → ∀ d, o.dst = some d → d ∉ reads ops oj) :
    Sim P T ρ ops E0 w0 C0 σ0 listed (h :: pend) r ap' n (putE env o.dst v) σ ds a w C := by
  have hnd := H.nd
  have hnd' : (h :: pend ++ r).Nodup := by
    have : (pend ++ h :: r).Perm (h :: pend ++ r) := List.perm_middle
    exact this.nodup_iff.1 hnd
  have hhp : h ∉ pend := fun hh => by
    have := (List.nodup_cons.1 hnd').1
    exact this (by simp [hh])
  obtain ⟨r1, r2⟩ := resp_head H.rsp
  have hlt := H.lt h (.inr (by simp))
  refine ⟨H.size, fun j hj => (H.lst j hj).trans ?_, fun j hj => H.lt j ?_, hnd', r2, ?_, H.hI, ?_, H.hX, ?_, fun j hj oj hoj => ?_, ?_, ?_, ?_⟩
  · simp only [List.mem_cons]
    constructor
    · rintro (h1 | h1 | h1)
      · exact .inl (.inr h1)
      · exact .inl (.inl h1)
      · exact .inr h1
    · rintro ((h1 | h1) | h1)
      · exact .inr (.inl h1)
      · exact .inl h1
      · exact .inr (.inr h1)
  · simp only [List.mem_cons] at hj ⊢
    rcases hj with (h1 | h1) | h1
    · exact .inr (.inl h1)
    · exact .inl h1
    · exact .inr (.inr h1)
  · have := H.gd
    simp only [good, Bool.and_eq_true] at this
    exact this.2
  · refine H.hE.weak fun t => ?_
    rcases mask_get (ops := ops) (env := putE env o.dst v) (t := t) (l := h :: pend) with ⟨_, h2⟩ | ⟨h1, h2⟩
    · exact .inl h2
    · right
      rw [h2, putE_get, if_neg (by rw [← dstOf_some ho]; exact h1 h (by simp))]
      rcases mask_get (ops := ops) (env := env) (t := t) (l := pend) with ⟨⟨j, h3, h4⟩, _⟩ | ⟨_, h3⟩
      · exact absurd h4 (h1 j (by simp [h3]))
      · exact h3.symm
  · intro j hj oj hoj
    rcases List.mem_cons.1 hj with rfl | hj
    · rw [ho] at hoj; cases hoj
      exact ⟨hp, hap⟩
    · obtain ⟨q1, q2⟩ := H.pok j hj oj hoj
      have hr : ∀ t ∈ reads ops oj, get env t = get (putE env o.dst v) t := fun t ht => by
        rw [putE_get]
        split
        · rename_i e; exact absurd ht (hrd j hj oj hoj t e)
        · rfl
      refine ⟨q1.same hr fun d hd => ?_, fun hw => hsub j (q2 (by rw [wantA_same hr]; exact hw))⟩
      rw [putE_get]
      split
      · rename_i e
        rcases (hA h j o oj d ho hoj e).1 with e' | e'
        · subst e'; exact absurd hj hhp
        · exact absurd hd e'
      · rfl
  · rcases List.mem_cons.1 hj with rfl | hj
    · rw [ho] at hoj; cases hoj
      exact ⟨hqq, hdl⟩
    · exact H.pq j hj oj hoj
  · intro j m hj hjr ha hm
    by_cases e : j = h
    · subst e
      have := r1 m (by simp [hm])
      rw [ha] at this; cases this
    · exact H.cl j m hj (by simp [e, hjr]) ha (by simp [hm])
  · intro t
    rcases H.e0 t with e | ⟨e1, e2⟩
    · exact .inl e
    · exact .inr ⟨e1, by rw [putE_get, if_neg (e1 h o ho), e2]⟩
  · intro k m hk hkp hkr ha hm
    have hkh : k ≠ h := fun e => hkp (by simp [e])
    have hkr' : k ∉ h :: r := by simp [hkh, hkr]
    rcases List.mem_cons.1 hm with rfl | hm
    · exact H.cl k m hk hkr' ha (by simp)
    · exact H.cl2 k m hk (fun hh => hkp (by simp [hh])) hkr' ha hm

/-- Nothing that waits reads what the head writes, if the head is quiet. -/
theorem Sim.noread (hA : Apart ops) {h : Nat} {r : List Nat} (H : Sim P T ρ ops E0 w0 C0 σ0 listed pend (h :: r) ap n env σ ds a w C) {o : Oper} (ho : ops[h]? = some o)
    (hq : loud o = false ∨ ∀ j ∈ pend, aft ops j h = false) : ∀ j ∈ pend, ∀ oj, ops[j]? = some oj → ∀ d, o.dst = some d → d ∉ reads ops oj := by
  intro j hj oj hoj d hd hr
  have hnd := H.nd
  have hjr : j ∉ h :: r := fun hh => by
    have := List.nodup_append.1 hnd
    exact this.2.2 j hj j hh rfl
  rcases (hA h j o oj d ho hoj hd).2 hr with h1 | ⟨h1, h2⟩
  · exact H.cl j h (H.lt j (.inl hj)) hjr h1 (by simp)
  · rcases hq with hq | hq
    · rw [hq] at h1; cases h1
    · rcases h2 with h2 | h2
      · subst h2; exact hjr (by simp)
      · rw [hq j hj] at h2; cases h2

theorem noself (hA : Apart ops) {h : Nat} {r : List Nat} (H : Sim P T ρ ops E0 w0 C0 σ0 listed pend (h :: r) ap n env σ ds a w C) {o : Oper} (ho : ops[h]? = some o) (hq : loud o = false) : ∀ d, o.dst = some d → d ∉ reads ops o := by
  intro d hd hr
  rcases (hA h h o o d ho ho hd).2 hr with h1 | ⟨h1, _⟩
  · have := (resp_head H.rsp).1 h (by simp)
    rw [h1] at this; cases this
  · rw [hq] at h1; cases h1

theorem known_get {env : List (Nat × Val)} {g : Nat} {v : Val} (hv : get env g = v) (t : Nat) : get ((g, v) :: env) t = get env t := by
  rw [get_cons]
  split
  · rename_i e; subst e; exact hv.symm
  · rfl

/-- A step in the one order: with its guard told. -/
theorem stepD_cases {i : Nat} {o : Oper} {k : List Nat → St → Prop} {KP : AV → St → Prop} (hk : stepD P T ρ ops E0 ap i o n env σ ds k KP) :
    ∃ env1, (∀ t, get env1 t = get env t) ∧ ((wantA ops env1 o = some true ∧ goD P T ρ ops E0 ap i o n env1 σ ds k KP) ∨ (wantA ops env1 o = some false ∧ St.put n env1 σ ds o.dst (.tup []) (k ap))) := by
  unfold stepD at hk
  split at hk
  · rename_i hg
    exact ⟨env, fun _ => rfl, .inl ⟨by simp [wantA, hg], hk⟩⟩
  · rename_i j want hg
    split at hk
    · exact hk.elim
    · rename_i g hd
      split at hk
      · rename_i b hb
        split at hk
        · cases b with
          | true => exact ⟨_, known_get hb, .inl ⟨by simp [wantA, hg, hd, get_cons], hk⟩⟩
          | false => exact ⟨_, known_get hb, .inr ⟨by simp [wantA, hg, hd, get_cons], hk⟩⟩
        · cases b with
          | true => exact ⟨_, known_get hb, .inr ⟨by simp [wantA, hg, hd, get_cons], hk⟩⟩
          | false => exact ⟨_, known_get hb, .inl ⟨by simp [wantA, hg, hd, get_cons], hk⟩⟩
      · rename_i hb
        exact ⟨env, fun _ => rfl, .inr ⟨by simp [wantA, hg, hd, hb], hk⟩⟩
      · exact hk.elim

theorem Sim.pushSkip (hA : Apart ops) {h : Nat} {r : List Nat} (H : Sim P T ρ ops E0 w0 C0 σ0 listed pend (h :: r) ap n env σ ds a w C) {o : Oper} (ho : ops[h]? = some o) (hw : wantA ops env o = some false) (hqq : loud o = false) (hdl : ∀ d, o.dst = some d → d < n)
    (hrd : ∀ j ∈ pend, ∀ oj, ops[j]? = some oj → ∀ d, o.dst = some d → d ∉ reads ops oj) (hself : ∀ d, o.dst = some d → d ∉ reads ops o) :
    Sim P T ρ ops E0 w0 C0 σ0 listed (h :: pend) r ap n (putE env o.dst (.tup [])) σ ds a w C := by
  have hr : ∀ t ∈ reads ops o, get env t = get (putE env o.dst (.tup [])) t := fun t ht => by
    rw [putE_get]
    split
    · rename_i e; exact absurd ht (hself t e)
    · rfl
  refine H.push hA ho hqq hdl ⟨.tup [], fun d hd => by rw [putE_get, if_pos hd], .inl ⟨by rw [← wantA_same hr]; exact hw, rfl⟩⟩ (fun hw' => ?_) (fun _ h => h) hrd
  rw [← wantA_same hr, hw] at hw'; cases hw'

theorem Sim.pushGo (hA : Apart ops) {h : Nat} {r : List Nat} (H : Sim P T ρ ops E0 w0 C0 σ0 listed pend (h :: r) ap n env σ ds a w C) {o : Oper} (ho : ops[h]? = some o) (hw : wantA ops env o = some true) (hq : loud o = false) (hqk : qok env o = true) (hdl : ∀ d, o.dst = some d → d < n) {v : Val}
    (hv : aop P T ρ env σ o (fun u τ => u = v ∧ τ = σ) (fun _ => False) (fun _ _ => False)) :
    Sim P T ρ ops E0 w0 C0 σ0 listed (h :: pend) r (h :: ap) n (putE env o.dst v) σ ds a w C := by
  have hself := noself hA H ho hq
  have hr : ∀ t ∈ reads ops o, get env t = get (putE env o.dst v) t := fun t ht => by
    rw [putE_get]
    split
    · rename_i e; exact absurd ht (hself t e)
    · rfl
  exact H.push hA ho hq hdl ⟨v, fun d hd => by rw [putE_get, if_pos hd], .inr ⟨by rw [← wantA_same hr]; exact hw, ⟨hq, by rw [← qok_congr (ev_same fun t ht => hr t (by simp [reads, ht]))]; exact hqk⟩, by rw [← aop_congr (ev_same fun t ht => hr t (by simp [reads, ht]))]; exact hv⟩⟩ (fun _ => by simp) (fun _ h => by simp [h]) (H.noread hA ho (.inl hq))

/-- What is not to come before i is told of. -/
theorem Sim.advance (hA : Apart ops) {K : St → Prop} {KP : AV → St → Prop} {i : Nat} : ∀ (rest : List Nat) {pend ap : List Nat} {env : List (Nat × Val)}, Sim P T ρ ops E0 w0 C0 σ0 listed pend rest ap n env σ ds a w C →
    arunD P T ρ ops E0 rest ap ⟨n, env, σ, ds⟩ K KP → (i ∈ pend ∨ i ∈ rest) → (∀ m, m ∈ pend ∨ m ∈ rest → aft ops m i = false) →
    ∃ pend' rest' ap' env', Sim P T ρ ops E0 w0 C0 σ0 listed pend' rest' ap' n env' σ ds a w C ∧ arunD P T ρ ops E0 rest' ap' ⟨n, env', σ, ds⟩ K KP ∧ pend'.length + rest'.length = pend.length + rest.length ∧
      (∀ m, m ∈ pend' ∨ m ∈ rest' → aft ops m i = false) ∧ (i ∈ pend' ∨ ∃ r o, rest' = i :: r ∧ ops[i]? = some o ∧ loud o = true)
  | [], pend, ap, env, H, hk, hi, hb => ⟨pend, [], ap, env, H, hk, rfl, hb, .inl (by simpa using hi)⟩
  | h :: r, pend, ap, env, H, hk, hi, hb => by
    by_cases hip : i ∈ pend
    · exact ⟨pend, h :: r, ap, env, H, hk, rfl, hb, .inl hip⟩
    have hk0 := hk
    simp only [arunD] at hk
    split at hk
    · rename_i _ _ o n' env' σ' ds' ho heq
      cases heq
      cases hl : loud o with
      | true =>
        by_cases e : i = h
        · subst e
          exact ⟨pend, i :: r, ap, env, H, hk0, rfl, hb, .inr ⟨r, o, rfl, ho, hl⟩⟩
        · have hir : i ∈ r := by
            rcases hi with hi | hi
            · exact absurd hi hip
            · simpa [e] using hi
          obtain ⟨m, hm, hbm⟩ := good_spec H.gd (by simp [loudAt, ho, hl]) i hir
          rw [hb m (.inr hm)] at hbm; cases hbm
      | false =>
        obtain ⟨env1, he1, hc⟩ := stepD_cases hk
        have H1 := H.told he1
        have hb' : ∀ m, m ∈ h :: pend ∨ m ∈ r → aft ops m i = false := fun m hm => hb m (by
          simp only [List.mem_cons] at hm ⊢
          rcases hm with (h1 | h1) | h1
          · exact .inr (.inl h1)
          · exact .inl h1
          · exact .inr (.inr h1))
        have hi' : i ∈ h :: pend ∨ i ∈ r := by
          simp only [List.mem_cons] at hi ⊢
          rcases hi with h1 | h1 | h1
          · exact .inl (.inr h1)
          · exact .inl (.inl h1)
          · exact .inr h1
        rcases hc with ⟨hw, hgo⟩ | ⟨hw, hput⟩
        · unfold goD at hgo
          rw [hl] at hgo
          simp only [cond_false] at hgo
          cases hqk : qok env1 o with
          | false => rw [hqk] at hgo; exact hgo.elim
          | true =>
          rw [hqk] at hgo
          simp only [cond_true] at hgo
          obtain ⟨v, h1, h2⟩ := quiet_det hl hqk hgo
          obtain ⟨h3, h4⟩ := put_spec h1
          obtain ⟨p', r', a', e', q1, q2, q3, q4⟩ := Sim.advance hA r (H1.pushGo hA ho hw hl hqk h3 h2) h4 hi' hb'
          exact ⟨p', r', a', e', q1, q2, by rw [q3]; simp; omega, q4⟩
        · obtain ⟨h3, h4⟩ := put_spec hput
          obtain ⟨p', r', a', e', q1, q2, q3, q4⟩ := Sim.advance hA r (H1.pushSkip hA ho hw hl h3 (H1.noread hA ho (.inl hl)) (noself hA H1 ho hl)) h4 hi' hb'
          exact ⟨p', r', a', e', q1, q2, by rw [q3]; simp; omega, q4⟩
    · exact hk.elim

end
end Go.Proofs.YtmaokphbfjpodaaGreatDoor.E

/- The engine, part 21: a drawn region by one order. No conditions. -/
set_option linter.unusedVariables false
set_option linter.unusedSimpArgs false
set_option linter.unusedSectionVars false
namespace Go.Proofs.YtmaokphbfjpodaaGreatDoor.E
open Go

section
variable {P : Program} {T : Tab} (HT : TabOk P T)
variable {ρ : Nat} {ops : Array Oper} {E0 : List (Nat × Val)} {w0 : World} {C0 : Cz} {σ0 : List AObj} {listed : Array Bool} {pend rest ap : List Nat} {n : Nat} {env : List (Nat × Val)} {σ : List AObj} {ds : List Dfr} {a : Act} {w : World} {C : Cz}

theorem wanted_of {E : List (Nat × Val)} (hE : EnvOk w C a ⟨n, E, σ, ds⟩) {o : Oper} {b : Bool} (h : wantA ops E o = some b) : Region.wanted o (yielded ops a.tmps) = b := by
  unfold wantA at h
  split at h
  · rename_i hg
    cases h
    simp [Region.wanted, hg]
  · rename_i j want hg
    split at h
    · cases h
    · rename_i g hd
      split at h
      · rename_i c hc
        cases h
        have := yielded_of hE hd hc
        simp only [Region.wanted, hg, this]
        cases c <;> cases want <;> rfl
      · rename_i hc
        cases h
        have := yielded_none hE hd hc
        simp [Region.wanted, hg, this]
      · cases h

/-- What a ready operation reads is not masked. -/
theorem Sim.reads (hA : Apart ops) (H : Sim P T ρ ops E0 w0 C0 σ0 listed pend rest ap n env σ ds a w C) {i : Nat} {o : Oper} (ho : ops[i]? = some o) (hb : ∀ m, m ∈ pend ∨ m ∈ rest → aft ops m i = false) :
    ∀ t ∈ reads ops o, get (mask ops pend env) t = get env t := by
  intro t ht
  rcases mask_get (ops := ops) (env := env) (t := t) (l := pend) with ⟨⟨j, h1, h2⟩, _⟩ | ⟨_, h3⟩
  · exfalso
    obtain ⟨oj, hoj, hd⟩ := dstOf_op h2
    rcases (hA j i oj o t hoj ho hd).2 ht with h4 | ⟨h4, _⟩
    · rw [hb j (.inl h1)] at h4; cases h4
    · rw [(H.pq j h1 oj hoj).1] at h4; cases h4
  · exact h3

theorem getD_set {l : Array Bool} {i j n : Nat} (hn : l.size = n) (hj : j < n) : (l.setIfInBounds i true).getD j true = if j = i then true else l.getD j true := by
  split
  · rename_i e; subst e
    simp [hn, hj]
  · rename_i e
    exact getD_set_ne true (Ne.symm e)

/-- What waited is done. -/
theorem Sim.pop (H : Sim P T ρ ops E0 w0 C0 σ0 listed pend rest ap n env σ ds a w C) {i : Nat} (hi : i ∈ pend) {o : Oper} (ho : ops[i]? = some o) {v : Val} (hv : ∀ d, o.dst = some d → get env d = v) {a' : Act} {w' : World} {C' : Cz}
    (hI : Inv w' C' σ) (hE : EnvOk w' C' a' ⟨n, putE (mask ops pend env) o.dst v, σ, ds⟩) (hX : Ext w C σ w' C' σ) (hb : ∀ m, m ∈ pend ∨ m ∈ rest → aft ops m i = false) : Sim P T ρ ops E0 w0 C0 σ0 (listed.setIfInBounds i true) (pend.erase i) rest ap n env σ ds a' w' C' := by
  have hnd := List.nodup_append.1 H.nd
  have hir : i ∉ rest := fun h => hnd.2.2 i hi i h rfl
  have hne : i ∉ pend.erase i := hnd.1.not_mem_erase
  refine ⟨by simp [H.size], fun j hj => ?_, fun j hj => H.lt j (hj.imp List.mem_of_mem_erase id), ?_, H.rsp, H.gd, hI, hE.weak fun t => ?_, H.hX.trans hX, fun j hj => H.pok j (List.mem_of_mem_erase hj), fun j hj => H.pq j (List.mem_of_mem_erase hj), H.cl, H.e0, fun k m hk hkp hkr ha hm => ?_⟩
  · rw [getD_set H.size hj]
    split
    · rename_i e; subst e
      simp [hne, hir]
    · rename_i e
      rw [H.lst j hj, List.mem_erase_of_ne e]
  · exact List.nodup_append.2 ⟨hnd.1.erase i, hnd.2.1, fun x hx y hy => hnd.2.2 x (List.mem_of_mem_erase hx) y hy⟩
  · rcases mask_get (ops := ops) (env := env) (t := t) (l := pend.erase i) with ⟨_, h2⟩ | ⟨h1, h2⟩
    · exact .inl h2
    · right
      rw [h2, putE_get]
      split
      · rename_i e; exact hv t e
      · rename_i e
        rcases mask_get (ops := ops) (env := env) (t := t) (l := pend) with ⟨⟨j, h3, h4⟩, _⟩ | ⟨_, h3⟩
        · by_cases ej : j = i
          · subst ej
            rw [dstOf_some ho] at h4
            exact absurd h4 e
          · exact absurd h4 (h1 j ((List.mem_erase_of_ne ej).2 h3))
        · exact h3.symm
  · have hm' := List.mem_of_mem_erase hm
    by_cases e : k = i
    · subst e
      rw [hb m (.inl hm')] at ha; cases ha
    · exact H.cl2 k m hk (fun hh => hkp ((List.mem_erase_of_ne e).2 hh)) hkr ha hm'

theorem EnvOk.putE {E : List (Nat × Val)} (h : EnvOk w C a ⟨n, E, σ, ds⟩) {d : Option Nat} (hd : ∀ x, d = some x → x < n) {v : Value} {x : Val} (hx : RepV w C v x) : EnvOk w C (a.put d v) ⟨n, _root_.Go.Proofs.YtmaokphbfjpodaaGreatDoor.E.putE E d x, σ, ds⟩ := by
  cases d with
  | none => exact h
  | some d => exact h.put (S := ⟨n, E, σ, ds⟩) (hd d rfl) hx

end
end Go.Proofs.YtmaokphbfjpodaaGreatDoor.E

/- The engine, part 22: the rule for drawn regions. No conditions. -/
set_option linter.unusedVariables false
set_option linter.unusedSimpArgs false
set_option linter.unusedSectionVars false
namespace Go.Proofs.YtmaokphbfjpodaaGreatDoor.E
open Go

section
variable {P : Program} {T : Tab} (HT : TabOk P T)
variable {ρ : Nat} {ops : Array Oper} {E0 : List (Nat × Val)} {w0 : World} {C0 : Cz} {σ0 : List AObj} {listed : Array Bool} {pend rest ap : List Nat} {n : Nat} {env : List (Nat × Val)} {σ : List AObj} {ds : List Dfr} {a : Act} {w : World} {C : Cz}

include HT in
theorem Sim.stepPend (hA : Apart ops) (H : Sim P T ρ ops E0 w0 C0 σ0 listed pend rest ap n env σ ds a w C) {i : Nat} (hi : i ∈ pend) {o : Oper} (ho : ops[i]? = some o) (hb : ∀ m, m ∈ pend ∨ m ∈ rest → aft ops m i = false)
    {next : Act → World → Prop} {Q : Exit → Act → World → Prop}
    (hn : ∀ a' w' C', Sim P T ρ ops E0 w0 C0 σ0 (listed.setIfInBounds i true) (pend.erase i) rest ap n env σ ds a' w' C' → next a' w') : wpOp P ops Q i next a w := by
  have hr := H.reads hA ho hb
  obtain ⟨⟨v, hv, hc⟩, _⟩ := H.pok i hi o ho
  obtain ⟨_, hdl⟩ := H.pq i hi o ho
  unfold wpOp
  simp only [ho]
  rcases hc with ⟨hw, rfl⟩ | ⟨hw, hq, hop⟩
  · have hw' : Region.wanted o (yielded ops a.tmps) = false := wanted_of H.hE ((wantA_same hr).trans hw)
    rw [if_neg (by rw [hw']; decide)]
    exact hn _ _ C (H.pop hi ho hv H.hI (H.hE.putE hdl rep_undef) (.refl w C σ) hb)
  · have hw' : Region.wanted o (yielded ops a.tmps) = true := wanted_of H.hE ((wantA_same hr).trans hw)
    rw [if_pos hw']
    left
    rw [← aop_congr (ev_same fun t ht => hr t (by simp [E.reads, ht]))] at hop
    refine aop_ok HT ρ (S := ⟨n, mask ops pend env, σ, ds⟩) H.hI H.hE hop (fun u w' C' x σ' hx h2 h3 h4 => ?_) (fun d x hx _ => hx.elim) (fun u x w' C' σ' hx _ _ _ => hx.elim)
    obtain ⟨rfl, rfl⟩ := hx
    exact hn _ _ C' (H.pop hi ho hv h2 ((H.hE.mono h3.le).putE hdl h4) h3 hb)

/-- The head of the rest, a loud one, is done. -/
theorem Sim.stepLoud (hA : Apart ops) {i : Nat} {r : List Nat} (H : Sim P T ρ ops E0 w0 C0 σ0 listed pend (i :: r) ap n env σ ds a w C) {o : Oper} (ho : ops[i]? = some o) (hb : ∀ j ∈ pend, aft ops j i = false) {v : Val} {ap' : List Nat} {σ' : List AObj}
    {a' : Act} {w' : World} {C' : Cz} (hI : Inv w' C' σ') (hE : EnvOk w' C' a' ⟨n, putE (mask ops pend env) o.dst v, σ', ds⟩) (hX : Ext w C σ w' C' σ')
    (hp : ∀ j ∈ pend, ∀ oj, ops[j]? = some oj → Pend P T ρ ops (putE env o.dst v) σ' oj ∧ (wantA ops (putE env o.dst v) oj = some true → j ∈ ap')) :
    Sim P T ρ ops E0 w0 C0 σ0 (listed.setIfInBounds i true) pend r ap' n (putE env o.dst v) σ' ds a' w' C' := by
  have hnd := List.nodup_append.1 H.nd
  have hip : i ∉ pend := fun h => hnd.2.2 i h i (by simp) rfl
  have hir : i ∉ r := (List.nodup_cons.1 hnd.2.1).1
  obtain ⟨r1, r2⟩ := resp_head H.rsp
  refine ⟨by simp [H.size], fun j hj => ?_, fun j hj => H.lt j (hj.imp id (by simp +contextual)), ?_, r2, ?_, hI, hE.weak fun t => ?_, H.hX.trans hX, hp, H.pq, ?_, fun t => ?_, fun k m hk hkp hkr ha hm => ?_⟩
  · rw [getD_set H.size hj]
    split
    · rename_i e; subst e
      simp [hip, hir]
    · rename_i e
      rw [H.lst j hj]
      simp [e]
  · exact List.nodup_append.2 ⟨hnd.1, (List.nodup_cons.1 hnd.2.1).2, fun x hx y hy => hnd.2.2 x hx y (by simp [hy])⟩
  · have := H.gd
    simp only [good, Bool.and_eq_true] at this
    exact this.2
  · rcases mask_get (ops := ops) (env := putE env o.dst v) (t := t) (l := pend) with ⟨_, h2⟩ | ⟨h1, h2⟩
    · exact .inl h2
    · right
      rw [h2, putE_get, putE_get]
      split
      · rfl
      · rcases mask_get (ops := ops) (env := env) (t := t) (l := pend) with ⟨⟨j, h3, h4⟩, _⟩ | ⟨_, h3⟩
        · exact absurd h4 (h1 j h3)
        · exact h3.symm
  · intro j m hj hjr ha hm
    by_cases e : j = i
    · subst e
      have := r1 m (by simp [hm])
      rw [ha] at this; cases this
    · exact H.cl j m hj (by simp [e, hjr]) ha (by simp [hm])
  · rcases H.e0 t with e | ⟨e1, e2⟩
    · exact .inl e
    · exact .inr ⟨e1, by rw [putE_get, if_neg (e1 i o ho), e2]⟩
  · by_cases e : k = i
    · subst e
      rw [hb m hm] at ha; cases ha
    · exact H.cl2 k m hk hkp (by simp [e, hkr]) ha hm

theorem unreq_mem {i : Nat} : ∀ {l : List Nat} {j : Nat}, j ∈ l → gone ops j i = false → j ∈ unreq ops i l
  | x :: l, j, hj, ha => by
    simp only [unreq]
    rcases List.mem_cons.1 hj with rfl | hj
    · rw [ha]; simp
    · cases gone ops x i
      · simp [unreq_mem hj ha]
      · simpa using unreq_mem hj ha

/-- What waits does not come before what is done now. -/
theorem gone_no {i : Nat} {pend rest : List Nat} (hB : ∀ j oj, ops[j]? = some oj → ∀ e ∈ oj.after, Region.binds .any e = true → e.on < j) (cl2 : ∀ k m, k < ops.size → k ∉ pend → k ∉ rest → aft ops m k = true → m ∉ pend) (hb : ∀ m, m ∈ pend ∨ m ∈ rest → aft ops m i = false) {j : Nat} (hj : j ∈ pend) : gone ops j i = false := by
  refine gone_false (hb j (.inl hj)) ?_
  cases h : aft2 ops j i with
  | false => rfl
  | true =>
    exfalso
    obtain ⟨k, h1, h2⟩ := aft2_mem h
    have hk : ∀ l, (k ∈ pend ∨ k ∈ rest) → l := fun l hh => by rw [hb k hh] at h1; cases h1
    obtain ⟨o, ho, e, he, hbd, hem⟩ := aft_mem h1
    have hlt := hB i o ho e he hbd
    rw [hem] at hlt
    have hsz : i < ops.size := (Array.getElem?_eq_some_iff.1 ho).1
    exact cl2 k j (by omega) (fun hh => hk _ (.inl hh)) (fun hh => hk _ (.inr hh)) h2 hj
theorem Sim.ready_lt {j : Nat} (h : j ∈ Region.ready .any ops listed) : j < ops.size := by
  obtain ⟨_, o, ho, _⟩ := mem_ready.1 h
  exact (Array.getElem?_eq_some_iff.1 ho).1

theorem getD_tf {l : Array Bool} {j : Nat} (h : j < l.size) : l.getD j true = l.getD j false := by simp [Array.getD, h]

/-- What is ready waits for nothing. -/
theorem Sim.ready_free (H : Sim P T ρ ops E0 w0 C0 σ0 listed pend rest ap n env σ ds a w C) {i : Nat} (hi : i ∈ Region.ready .any ops listed) : ∀ m, m ∈ pend ∨ m ∈ rest → aft ops m i = false := by
  intro m hm
  obtain ⟨_, o, ho, hall⟩ := mem_ready.1 hi
  cases h : aft ops m i with
  | false => rfl
  | true =>
    obtain ⟨o', ho', e, he, hbd, hem⟩ := aft_mem h
    rw [ho] at ho'; cases ho'
    have h1 := hall e he hbd
    rw [hem] at h1
    have h2 := (H.lst m (H.lt m hm)).2 hm
    rw [getD_tf (by rw [H.size]; exact H.lt m hm), h1] at h2; cases h2

/-- While something is left, something is ready. -/
theorem Sim.some_ready (H : Sim P T ρ ops E0 w0 C0 σ0 listed pend rest ap n env σ ds a w C) (hB : ∀ j oj, ops[j]? = some oj → ∀ e ∈ oj.after, Region.binds .any e = true → e.on < j) :
    ∀ j, j ∈ pend ∨ j ∈ rest → Region.ready .any ops listed ≠ [] := by
  intro j
  induction j using Nat.strongRecOn with
  | _ j ih =>
    intro hj
    have hlt := H.lt j hj
    obtain ⟨o, ho⟩ : ∃ o, ops[j]? = some o := ⟨_, Array.getElem?_eq_getElem hlt⟩
    by_cases hall : ∀ e ∈ o.after, Region.binds .any e = true → listed.getD e.on false = true
    · intro hnil
      have : j ∈ Region.ready .any ops listed := mem_ready.2 ⟨(H.lst j hlt).2 hj, o, ho, hall⟩
      rw [hnil] at this; cases this
    · simp only [Classical.not_forall] at hall
      obtain ⟨e, he, hb, hf⟩ := hall
      have hl := hB j o ho e he hb
      refine ih e.on hl ((H.lst e.on (by omega)).1 ?_)
      rw [getD_tf (by rw [H.size]; omega)]
      simpa using hf

include HT in
theorem sim_ok (hA : Apart ops) (hB : ∀ j oj, ops[j]? = some oj → ∀ e ∈ oj.after, Region.binds .any e = true → e.on < j) {K : St → Prop} {KP : AV → St → Prop} {Q : Exit → Act → World → Prop}
    (hn : ∀ S' w' C' a', K S' → Inv w' C' S'.σ → EnvOk w' C' a' S' → Ext w0 C0 σ0 w' C' S'.σ → Q .normal a' w')
    (hp : ∀ v x S' w' C' a, KP x S' → Inv w' C' S'.σ → EnvOk w' C' a S' → Ext w0 C0 σ0 w' C' S'.σ → RepA w' C' v x → Q (.panic [{ v := v, recovered := false }]) a w') :
    ∀ (fuel : Nat) {listed : Array Bool} {pend rest ap : List Nat} {env : List (Nat × Val)} {σ : List AObj} {a : Act} {w : World} {C : Cz}, Sim P T ρ ops E0 w0 C0 σ0 listed pend rest ap n env σ ds a w C →
      fuel = pend.length + rest.length → arunD P T ρ ops E0 rest ap ⟨n, env, σ, ds⟩ K KP → wpAny P .any ops Q fuel listed a w
  | 0, listed, pend, rest, ap, env, σ, a, w, C, H, hf, hk => by
    have e1 : pend = [] := List.eq_nil_of_length_eq_zero (by omega)
    have e2 : rest = [] := List.eq_nil_of_length_eq_zero (by omega)
    subst e1; subst e2
    refine ⟨?_, hn _ w C a hk H.hI H.hE H.hX⟩
    cases hr : Region.ready .any ops listed with
    | nil => rfl
    | cons j _ =>
      have hj : j ∈ Region.ready .any ops listed := by rw [hr]; simp
      have := (H.lst j (Sim.ready_lt hj)).1 (mem_ready.1 hj).1
      simp at this
  | fuel + 1, listed, pend, rest, ap, env, σ, a, w, C, H, hf, hk => by
    refine ⟨fun hr => ?_, fun i hi => ?_⟩
    · exfalso
      obtain ⟨j, hj⟩ : ∃ j, j ∈ pend ∨ j ∈ rest := by
        cases pend with
        | cons j _ => exact ⟨j, .inl (by simp)⟩
        | nil => cases rest with
          | cons j _ => exact ⟨j, .inr (by simp)⟩
          | nil => simp at hf
      exact H.some_ready hB j hj hr
    · have hin := (H.lst i (Sim.ready_lt hi)).1 (mem_ready.1 hi).1
      obtain ⟨pend, rest, ap, env, H, hk, hl, hb, hc⟩ := H.advance hA rest hk hin (H.ready_free hi)
      rw [← hl] at hf
      rcases hc with hip | ⟨r, o, rfl, ho, hlo⟩
      · obtain ⟨o, ho⟩ : ∃ o, ops[i]? = some o := ⟨_, Array.getElem?_eq_getElem (Sim.ready_lt hi)⟩
        refine H.stepPend HT hA hip ho hb (fun a' w' C' H' => sim_ok hA hB hn hp fuel H' ?_ hk)
        rw [List.length_erase_of_mem hip]
        have := List.length_pos_of_mem hip
        omega
      · simp only [arunD] at hk
        split at hk
        · rename_i _ _ o' n' env' σ' ds' ho' heq
          cases heq
          rw [ho] at ho'; cases ho'
          obtain ⟨env1, he1, hc⟩ := stepD_cases hk
          have H1 := H.told he1
          have hbp : ∀ j ∈ pend, aft ops j i = false := fun j hj => hb j (.inl hj)
          have hr := H1.reads hA ho hb
          have hnr := H1.noread hA ho (.inr hbp)
          have hnd := List.nodup_append.1 H1.nd
          have hip : i ∉ pend := fun h => hnd.2.2 i h i (by simp) rfl
          have pkeep : ∀ (v : Val) (j : Nat), j ∈ pend → ∀ oj, ops[j]? = some oj → (∀ t ∈ reads ops oj, get env1 t = get (putE env1 o.dst v) t) ∧ (∀ d, oj.dst = some d → get (putE env1 o.dst v) d = get env1 d) := fun v j hj oj hoj =>
            ⟨fun t ht => by
              rw [putE_get]
              split
              · rename_i e; exact absurd ht (hnr j hj oj hoj t e)
              · rfl, fun d hd => by
              rw [putE_get]
              split
              · rename_i e
                rcases (hA i j o oj d ho hoj e).1 with e' | e'
                · subst e'; exact absurd hj hip
                · exact absurd hd e'
              · rfl⟩
          unfold wpOp
          simp only [ho]
          rcases hc with ⟨hw, hgo⟩ | ⟨hw, hput⟩
          · have hw' : Region.wanted o (yielded ops a.tmps) = true := wanted_of H1.hE ((wantA_same hr).trans hw)
            rw [if_pos hw']
            left
            unfold goD at hgo
            rw [hlo] at hgo
            simp only [cond_true] at hgo
            rw [← aop_congr (ev_same fun t ht => hr t (by simp [reads, ht]))] at hgo
            refine aop_ok HT ρ (S := ⟨n, mask ops pend env1, σ, ds⟩) H1.hI H1.hE hgo (fun u w' C' x σ' hx h2 h3 h4 => ?_) (fun d x hx _ => hx.elim) (fun u x w' C' σ' hx h2 h3 h4 => ?_)
            · obtain ⟨hdl, hrc⟩ := put_spec hx
              obtain ⟨k1, k2⟩ := recheck_spec hrc
              refine sim_ok hA hB hn hp fuel (H1.stepLoud hA ho hbp h2 (EnvOk.putE (σ := σ') ⟨(H1.hE.mono h3.le).size, (H1.hE.mono h3.le).env, (H1.hE.mono h3.le).dlen, (H1.hE.mono h3.le).ds⟩ hdl h4) h3 (ap' := unreq ops i ap) (fun j hj oj hoj => ?_)) (by simp at hf; omega) k1
              obtain ⟨s1, s2⟩ := pkeep x j hj oj hoj
              obtain ⟨q1, q2⟩ := H1.pok j hj oj hoj
              obtain ⟨v, p1, p2⟩ := q1.same s1 s2
              refine ⟨⟨v, p1, ?_⟩, fun hwj => unreq_mem (q2 (by rw [wantA_same s1]; exact hwj)) (gone_no hB H1.cl2 hb hj)⟩
              rcases p2 with p2 | ⟨p2, p3, p4⟩
              · exact .inl p2
              · exact .inr ⟨p2, p3, quiet_σ p3 p4 (k2 j (unreq_mem (q2 (by rw [wantA_same s1]; exact p2)) (gone_no hB H1.cl2 hb hj)) oj hoj v p1)⟩
            · refine hp u x _ w' C' a hx h2 (EnvOk.weak (E := mask ops pend env1) ⟨(H1.hE.mono h3.le).size, (H1.hE.mono h3.le).env, (H1.hE.mono h3.le).dlen, (H1.hE.mono h3.le).ds⟩ fun t => ?_) (H1.hX.trans h3) h4
              rcases H1.e0 t with e | ⟨e1, e2⟩
              · exact .inl e
              · right
                rw [e2]
                rcases mask_get (ops := ops) (env := env1) (t := t) (l := pend) with ⟨⟨j, h5, h6⟩, _⟩ | ⟨_, h5⟩
                · obtain ⟨oj, hoj, hd⟩ := dstOf_op h6
                  exact absurd hd (e1 j oj hoj)
                · exact h5.symm
          · have hw' : Region.wanted o (yielded ops a.tmps) = false := wanted_of H1.hE ((wantA_same hr).trans hw)
            rw [if_neg (by rw [hw']; decide)]
            obtain ⟨hdl, hrc⟩ := put_spec hput
            refine sim_ok hA hB hn hp fuel (H1.stepLoud hA ho hbp H1.hI (H1.hE.putE hdl rep_undef) (.refl w C σ) (fun j hj oj hoj => ?_)) (by simp at hf; omega) hrc
            obtain ⟨s1, s2⟩ := pkeep (.tup []) j hj oj hoj
            obtain ⟨q1, q2⟩ := H1.pok j hj oj hoj
            exact ⟨q1.same s1 s2, fun hwj => q2 (by rw [wantA_same s1]; exact hwj)⟩
        · exact hk.elim

include HT in
/-- A drawn region: by a run in one order, which the checks allow. -/
theorem AW.draw (hm : P.follows .mixedOrders = true) {id : Nat} (ord : List Nat) (hs : statB ops ord = true) {K : AEx → St → Prop} (h : arunD P T ρ ops (mask ops ord env) ord [] ⟨n, env, σ, ds⟩ (K .normal) (fun a => K (.pan a))) :
    AW P T ρ (.region id ops true) ⟨n, env, σ, ds⟩ K :=
  ⟨fun w C a hI hE => by
    refine wp_region_any hm ?_
    simp only [statB, Bool.and_eq_true, permB] at hs
    obtain ⟨⟨⟨⟨⟨p1, p2⟩, p3⟩, s2⟩, s3⟩, s4⟩ := hs
    have hsp := apartB_spec s4
    have hlt : ∀ {j : Nat} {o : Oper}, ops[j]? = some o → j < ops.size := fun h => (Array.getElem?_eq_some_iff.1 h).1
    have hA : Apart ops := fun m j om oj d h1 h2 h3 => apart1_spec (hsp j (hlt h2) oj h2).2 m (hlt h1) om d h1 h3
    have hB : ∀ j oj, ops[j]? = some oj → ∀ e ∈ oj.after, Region.binds .any e = true → e.on < j := fun j oj h1 => (hsp j (hlt h1) oj h1).1
    have hw : ({ w with drawn := w.drawn + 1 } : World).heap = w.heap := rfl
    have hX : Ext w C σ { w with drawn := w.drawn + 1 } C σ := Ext.heap hw rfl rfl rfl
    have hnd := nodB_nodup p3
    have hmem : ∀ j, j < ops.size ↔ j ∈ ord := fun j => ⟨coverB_mem p1 j, ltB_mem p2 j⟩
    have hlen : ops.size = ([] : List Nat).length + ord.length := by
      have : (List.range ops.size).Perm ord := (List.perm_ext_iff_of_nodup List.nodup_range hnd).2 fun j => by rw [List.mem_range]; exact hmem j
      have := this.length_eq
      simpa using this
    refine sim_ok HT hA hB (E0 := mask ops ord env) (ρ := ρ) (n := n) (ds := ds) (pend := []) (rest := ord) (ap := []) (env := env) (σ := σ) (C := C) (w0 := w) (C0 := C) (σ0 := σ) (K := K .normal) (KP := fun a => K (.pan a)) (fun S' w' C' a' h1 h2 h3 h4 => ⟨.normal, S', C', h1, trivial, h2, h3, h4⟩)
      (fun v x S' w' C' a h1 h2 h3 h4 h5 => ⟨.pan x, S', C', h1, ⟨v, rfl, h5⟩, h2, h3, h4⟩) ops.size ?_ hlen h
    refine ⟨by simp, fun j hj => ?_, fun j hj => (hmem j).2 (by simpa using hj), by simpa using hnd, s2, s3, Inv.heap hw hI, hE.mono hX.le, hX, fun j hj => by simp at hj, fun j hj => by simp at hj, fun j m hj hjr => absurd ((hmem j).1 hj) hjr, fun t => ?_, fun k m _ _ _ _ hm => by simp at hm⟩
    · have h1 := (hmem j).1 hj
      simp [hj, h1]
    · rcases mask_get (ops := ops) (env := env) (t := t) (l := ord) with ⟨_, h2⟩ | ⟨h1, h2⟩
      · exact .inl h2
      · exact .inr ⟨fun j o ho hd => h1 j ((hmem j).1 (hlt ho)) (by rw [dstOf_some ho]; exact hd), h2⟩⟩

end
end Go.Proofs.YtmaokphbfjpodaaGreatDoor.E

/- The engine, part 23: functions with deferred calls; recover. No conditions. -/
set_option linter.unusedVariables false
set_option linter.unusedSimpArgs false
set_option linter.unusedSectionVars false
namespace Go.Proofs.YtmaokphbfjpodaaGreatDoor.E
open Go

section
variable {P : Program} {T : Tab} (HT : TabOk P T)

/-- How a body is being left: it returns, or dies of a panic (recovered or not). -/
inductive AMode where
  | ret
  | pan (a : AV) (rec : Bool)

def ModeOk (w : World) (C : Cz) : FrameMode → AMode → Prop
  | .returning, .ret => True
  | .panicking ch, .pan a r => ∃ v, ch = [{ v := v, recovered := r }] ∧ RepA w C v a
  | _, _ => False

/-- A deferred call, made while the body is being left as u tells. -/
structure ADef (P : Program) (f : FuncId) (args : List AV) (σ : List AObj) (u : AMode) (R : Out → AMode → List AObj → Prop) : Prop where
  out : ∀ (w : World) (C : Cz) (vs : Array Value) (um : FrameMode), Inv w C σ → RepL w C vs.toList args → ModeOk w C um u →
    CallsD P f vs um w fun e um' w' => ∃ o u' σ' C', R o u' σ' ∧ ModeOk w' C' um' u' ∧ Inv w' C' σ' ∧ Ext w C σ w' C' σ' ∧ OutOk w' C' e o

theorem ADef.mono {f : FuncId} {args : List AV} {σ : List AObj} {u : AMode} {R R' : Out → AMode → List AObj → Prop} (h : ADef P f args σ u R) (hr : ∀ o u' σ', R o u' σ' → R' o u' σ') : ADef P f args σ u R' :=
  ⟨fun w C vs um h1 h2 h3 => (h.out w C vs um h1 h2 h3).mono fun e um' w' ⟨o, u', σ', C', q, r⟩ => ⟨o, u', σ', C', hr _ _ _ q, r⟩⟩

def AMode.settle : AMode → AMode
  | .pan _ true => .ret
  | u => u

theorem settle_ok {w : World} {C : Cz} {um : FrameMode} {u : AMode} (h : ModeOk w C um u) : ModeOk w C (Go.settle um) u.settle := by
  cases um <;> cases u <;> try exact h.elim
  · exact h
  · rename_i ch a r
    obtain ⟨v, rfl, hr⟩ := h
    cases r
    · exact ⟨v, rfl, hr⟩
    · trivial

/-- The deferred calls are made, the newest first. -/
def aLeave (P : Program) (T : Tab) (ρ f : Nat) (rs : List ResultVar) (n : Nat) (R : Out → List AObj → Prop) : List Dfr → AMode → List (Nat × Val) → List AObj → Prop
  | [], u, env, σ => match u with
    | .ret => aResults T env σ rs (fun vs => aArgs ρ vs (T.rsl f) σ (fun ys σ' => aRet R n ys σ'))
    | .pan a false => frz1 ρ σ a none (fun d σ' => aPan R n (.d d) σ')
    | .pan _ true => False
  | d :: ds, u, env, σ => bif T.fok d.f then ADef P d.f d.args σ u (fun o u' σ' => match o with
      | .ret _ => aLeave P T ρ f rs n R ds u'.settle env σ'
      | .pan _ => False) else False

def afinD (P : Program) (T : Tab) (ρ f : Nat) (rs : List ResultVar) (n : Nat) (R : Out → List AObj → Prop) : AEx → St → Prop
  | .normal, ⟨_, env, σ, ds⟩ => aLeave P T ρ f rs n R ds .ret env σ
  | .ret, ⟨_, env, σ, ds⟩ => aLeave P T ρ f rs n R ds .ret env σ
  | .pan a, ⟨_, env, σ, ds⟩ => aLeave P T ρ f rs n R ds (.pan a false) env σ
  | .exit _, _ => False

theorem aPan_ok {w : World} {C : Cz} {σ : List AObj} (hI : Inv w C σ) {ρ n : Nat} {a : AV} {v : Value} (hr : RepA w C v a) {R : Out → List AObj → Prop} (hk : frz1 ρ σ a none (fun d σ' => aPan R n (.d d) σ')) {w0 : World} {C0 : Cz} {σ0 : List AObj} (hn : σ0.length = n)
    (h0 : C0.θ.length = σ0.length) (hX : Ext w0 C0 σ0 w C σ) : ∃ o σ' C', R o σ' ∧ Inv w C' σ' ∧ Ext w0 C0 σ0 w C' σ' ∧ OutOk w C' (.panicked [{ v := v, recovered := false }]) o := by
  subst hn
  obtain ⟨C2, d, σ2, q1, q2, q3, q4, q5⟩ := frz1_ok hI ρ hr hk
  unfold aPan at q1
  cases hb : ltB σ0.length (AV.d d).ids && closedN σ0.length (σ2.take σ0.length) && Nat.ble σ0.length σ2.length with
  | false => rw [hb] at q1; exact ⟨_, σ2, C2, q1, q3, hX.trans q4, v, rfl, .d _ _ q5⟩
  | true =>
    rw [hb] at q1
    simp only [Bool.and_eq_true] at hb
    obtain ⟨⟨b1, b2⟩, b3⟩ := hb
    have hle : σ0.length ≤ σ2.length := Nat.le_of_ble_eq_true b3
    have hl : (σ2.take σ0.length).length = σ0.length := by rw [List.length_take]; omega
    obtain ⟨t1, t2⟩ := trunc q3 (take_app σ2 σ0.length) (by rw [hl]; exact b2)
    exact ⟨_, _, _, q1, t1, t2 (by omega) (hX.trans q4) h0, v, rfl, .d _ _ q5⟩

include HT in
theorem leave_ok {ρ f nn : Nat} {fn : Func} {R : Out → List AObj → Prop} {w0 : World} {C0 : Cz} {σ0 : List AObj} (hnn : σ0.length = nn) (h0 : C0.θ.length = σ0.length) (tmps : Array Value) : ∀ (ds : List Dfr) (dd : List Deferred) (u : AMode) (um : FrameMode) {w : World} {C : Cz} {n : Nat} {env : List (Nat × Val)} {σ : List AObj},
    Inv w C σ → EnvOk w C { tmps := tmps, defers := dd } ⟨n, env, σ, ds⟩ → ModeOk w C um u → aLeave P T ρ f fn.results.toList nn R ds u env σ → Ext w0 C0 σ0 w C σ →
    Leaves P fn tmps (fun e w' => ∃ o σ' C', R o σ' ∧ Inv w' C' σ' ∧ Ext w0 C0 σ0 w' C' σ' ∧ OutOk w' C' e o) dd um w
  | [], dd, u, um, w, C, n, env, σ, hI, hE, hM, hk, hX => by
    have hd0 : dd = [] := List.eq_nil_of_length_eq_zero (by have := hE.dlen; simpa using this)
    subst hd0
    cases u with
    | ret =>
      cases um <;> try exact hM.elim
      simp only [aLeave] at hk
      obtain ⟨vs', us, k1, k2, k3⟩ := aResults_ok HT hI hE _ hk
      obtain ⟨C2, ys, σ2, q1, q2, q3, q4, q5⟩ := aArgs_ok ρ hI k3 k1
      exact ⟨_, results_run k2, aRet_ok q3 q1 (one_tuple q5) hnn h0 (hX.trans q4)⟩
    | pan a r =>
      cases um <;> try exact hM.elim
      obtain ⟨v, rfl, hr⟩ := hM
      cases r with
      | true => exact hk.elim
      | false => exact aPan_ok hI hr hk hnn h0 hX
  | d :: ds, dd, u, um, w, C, n, env, σ, hI, hE, hM, hk, hX => by
    cases dd with
    | nil => have := hE.dlen; simp at this
    | cons d0 dds =>
      simp only [aLeave] at hk
      cases hfk : T.fok d.f with
      | false => rw [hfk] at hk; exact hk.elim
      | true =>
        rw [hfk] at hk
        simp only [cond_true] at hk
        obtain ⟨cap, ht, hr⟩ := hE.ds 0 d0 d rfl rfl
        refine ⟨fun e => by subst e; cases u <;> exact hM.elim, .func d.f, cap, d.f, d0.args ++ cap, ht, ?_, ?_⟩
        · rw [ht]
          simpa [invoke] using HT.fok d.f hfk (d0.args ++ cap) w
        · refine (hk.out w C _ um hI hr hM).mono ?_
          rintro e um' w' ⟨o, u', σ', C', q1, q2, q3, q4, q5⟩
          cases o with
          | pan _ => exact q1.elim
          | ret x =>
            obtain ⟨v, rfl, hv⟩ := q5
            have hE' := hE.mono q4.le
            refine leave_ok hnn h0 tmps ds dds _ _ q3 (n := n) ⟨hE'.size, hE'.env, by have := hE'.dlen; simpa using this, fun i d x h1 h2 => hE'.ds (i + 1) d x (by simpa using h1) (by simpa using h2)⟩ (settle_ok q2) q1 (hX.trans q4)

include HT in
/-- A function with deferred calls: by its body, then by them. -/
theorem ACall.bodyD {ρ f : Nat} {fn : Func} {c : Code} {N : Nat} {E : List (Nat × Val)} {rs : List ResultVar} (hf : P.funcs[f]? = some fn) (hb : fn.body = some c) (hN : fn.ntmps = N) (hr : fn.results.toList = rs)
    {args : List Val} {σ : List AObj} {R : Out → List AObj → Prop} (he : env0 0 args = E) (hn : Nat.ble args.length N = true)
    (h : AW P T ρ c ⟨N, E, σ, []⟩ (afinD P T ρ f rs σ.length R)) : ACall P f args σ R :=
  ⟨fun w C vs hI hv => by
    subst hN; subst hr; subst he
    refine calls_of_wp_defers hf hb (wp_mono (h.out w C _ hI (start_env hv (Nat.le_of_ble_eq_true hn) σ)) ?_)
    rintro e a' w' ⟨x, ⟨n', env', σ', ds'⟩, C', hk, hx, hI', hE', hX⟩
    cases e <;> cases x <;> first | (exact hx.elim) | skip
    · exact leave_ok HT rfl hI.len a'.tmps ds' a'.defers .ret .returning hI' hE' trivial hk hX
    · exact hk.elim
    · exact leave_ok HT rfl hI.len a'.tmps ds' a'.defers .ret .returning hI' hE' trivial hk hX
    · obtain ⟨v, rfl, hr⟩ := hx
      exact leave_ok HT rfl hI.len a'.tmps ds' a'.defers (.pan _ false) _ hI' hE' ⟨v, rfl, hr⟩ hk hX⟩

/-! ### A deferred call that recovers first -/
def AMode.val : AMode → AV
  | .pan a false => a
  | _ => .d .nili
def AMode.caught : AMode → AMode
  | .pan a false => .pan a true
  | u => u

def afinU (T : Tab) (rs : List ResultVar) (u : AMode) (R : Out → AMode → List AObj → Prop) : AEx → St → Prop
  | .normal, ⟨_, env, σ, []⟩ => aResults T env σ rs (fun vs => R (.ret (oneOf vs)) u σ)
  | .ret, ⟨_, env, σ, []⟩ => aResults T env σ rs (fun vs => R (.ret (oneOf vs)) u σ)
  | .pan a, ⟨_, env, σ, []⟩ => R (.pan a) u σ
  | _, _ => False

theorem recoverD_ok {w : World} {C : Cz} {c0 : Frame} {cs : List Frame} {u : AMode} (h : ModeOk w C c0.mode u) :
    ∃ v um', ModeOk w C um' u.caught ∧ RepA w C v u.val ∧ (recoverD (c0 :: cs) = some (v, { c0 with mode := um' } :: cs) ∨ (recoverD (c0 :: cs) = none ∧ v = .nilIface ∧ um' = c0.mode)) := by
  cases hm : c0.mode with
  | run => rw [hm] at h; cases u <;> exact h.elim
  | returning =>
    rw [hm] at h
    cases u with
    | ret => exact ⟨.nilIface, .returning, trivial, .d _ _ .nili, .inr ⟨by simp [recoverD, hm], rfl, rfl⟩⟩
    | pan a r => exact h.elim
  | panicking ch =>
    rw [hm] at h
    cases u with
    | ret => exact h.elim
    | pan a r =>
      obtain ⟨v, rfl, hr⟩ := h
      cases r with
      | false => exact ⟨v, .panicking [{ v := v, recovered := true }], ⟨v, rfl, hr⟩, hr, .inl (by simp [recoverD, hm])⟩
      | true => exact ⟨.nilIface, .panicking [{ v := v, recovered := true }], ⟨v, rfl, hr⟩, .d _ _ .nili, .inr ⟨by simp [recoverD, hm], rfl, rfl⟩⟩

include HT in
theorem ADef.recover {ρ f : Nat} {fn : Func} {id : Nat} {o : Oper} {c : Code} {N d : Nat} {E : List (Nat × Val)} {rs : List ResultVar} (hf : P.funcs[f]? = some fn) (hb : fn.body = some (.seq (.region id #[o] false) c)) (hN : fn.ntmps = N) (hr : fn.results.toList = rs)
    (hop : o.op = .call { callee := .builtin .recover, args := #[], argTypes := #[] }) (hg : o.guard = none) (hd : o.dst = some d) (hdN : Nat.blt d N = true)
    {args : List AV} {σ : List AObj} {u : AMode} {R : Out → AMode → List AObj → Prop} (he : env0 0 (args.map .c) = E) (hn : Nat.ble args.length N = true)
    (h : AW P T ρ c ⟨N, (d, .c u.val) :: E, σ, []⟩ (afinU T rs u.caught R)) : ADef P f args σ u R :=
  ⟨fun w C vs um hI hv hM => by
    subst hN; subst hr; subst he
    refine callsD_of_wpS hf hb fun c0 cs hu => ?_
    refine wpS_seq (wpS_region ?_)
    have hst := start_env (fn := fn) (repL_vs hv) (by simpa using Nat.le_of_ble_eq_true hn) σ
    rw [← hu] at hM
    obtain ⟨v, um', m1, m2, m3⟩ := recoverD_ok (cs := cs) hM
    have hexec : (execOp (Act.eval { tmps := vs ++ Array.replicate (fn.ntmps - vs.size) undef, defers := [] }) o).run P w = .ok .recover w := by
      simp [execOp, hop, resolve, invoke, builtin]
    have hcs : ∀ (K : List Frame → Prop), K ({ c0 with mode := um' } :: cs) → (match recoverD (c0 :: cs) with
        | some (v', cs') => v' = v → K cs'
        | none => v = .nilIface → K (c0 :: cs)) := by
      intro K hK
      rcases m3 with m3 | ⟨m3, m4, m5⟩
      · rw [m3]; exact fun _ => hK
      · rw [m3]; subst m5; exact fun _ => hK
    have key : (c.wpS P (bodyPostS P fn c0 cs fun e um' w' => ∃ o u' σ' C', R o u' σ' ∧ ModeOk w' C' um' u' ∧ Inv w' C' σ' ∧ Ext w C σ w' C' σ' ∧ OutOk w' C' e o)
        (Act.put { tmps := vs ++ Array.replicate (fn.ntmps - vs.size) undef, defers := [] } o.dst v) ({ c0 with mode := um' } :: cs) w) := by
      refine wpS_of_wp (wp_mono (h.out w C _ hI (by rw [hd]; exact hst.put (S := start fn (args.map .c) σ) (blt_lt hdN) (.c _ _ m2))) ?_)
      rintro e a' w' ⟨x, ⟨n', env', σ', ds'⟩, C', hk, hx, hI', hE', hX⟩
      cases ds' with
      | cons _ _ => cases x <;> exact hk.elim
      | nil =>
      have hd0 : a'.defers = [] := List.eq_nil_of_length_eq_zero (by rw [hE'.dlen]; rfl)
      have m1' : ModeOk w' C' um' u.caught := by
        cases um' <;> cases hu' : u.caught <;> rw [hu'] at m1 <;> try exact m1.elim
        · trivial
        · obtain ⟨v, e, hr⟩ := m1
          exact ⟨v, e, hr.mono hX.le⟩
      have fin : aResults T env' σ' fn.results.toList (fun vs => R (.ret (oneOf vs)) u.caught σ') →
          a'.defers = [] ∧ ∃ u', ({ c0 with mode := um' } :: cs : List Frame) = { c0 with mode := u' } :: cs ∧ ∃ v, (results fn a'.tmps).run P w' = .ok v w' ∧
            ∃ o u'' σ' C', R o u'' σ' ∧ ModeOk w' C' u' u'' ∧ Inv w' C' σ' ∧ Ext w C σ w' C' σ' ∧ OutOk w' C' (.returned v) o := fun hk => by
        obtain ⟨vs', us, k1, k2, k3⟩ := aResults_ok HT hI' hE' _ hk
        exact ⟨hd0, um', rfl, _, results_run k2, _, _, σ', C', k1, m1', hI', hX, _, rfl, one_tuple k3⟩
      cases e <;> cases x <;> first | (exact hx.elim) | skip
      · exact fin hk
      · exact hk.elim
      · exact fin hk
      · obtain ⟨v, rfl, hr⟩ := hx
        exact ⟨hd0, um', rfl, _, _, σ', C', hk, m1', hI', hX, v, rfl, hr⟩
    show wpOpsS P #[o] _ [0] _ _ _
    unfold wpOpsS
    simp only [List.getElem?_toArray, List.getElem?_cons_zero]
    rw [if_pos (by simp [Region.wanted, hg])]
    rw [hexec]
    rcases m3 with m3 | ⟨m3, m4, m5⟩
    · simp only [m3]
      exact key
    · simp only [m3]
      subst m5
      rw [m4] at key
      exact key⟩

end
end Go.Proofs.YtmaokphbfjpodaaGreatDoor.E

/- The engine, part 24: a nil slice that is to grow is an own row of no elements. No conditions. -/
set_option linter.unusedVariables false
set_option linter.unusedSimpArgs false
set_option linter.unusedSectionVars false
namespace Go.Proofs.YtmaokphbfjpodaaGreatDoor.E
open Go

section
variable {P : Program} {T : Tab}

theorem nils_val {w : World} {C : Cz} {v : Value} (h : RepA w C v (.d .nils)) : v = .slice none 0 0 := by
  have h := repA_d h
  cases h; rfl

/-- In a variable. -/
theorem AW.ghost {ρ : Nat} {c : Code} {n : Nat} {env : List (Nat × Val)} {σ : List AObj} {ds : List Dfr} {K : AEx → St → Prop} (e sz o off : Nat) (hz : 0 < sz) {cells : List AV} (ho : σ[o]? = some (.var cells)) (hc : cells[off]? = some (.d .nils))
    (h : AW P T ρ c ⟨n, env, σ.set o (.var (cells.set off (.own σ.length 0))) ++ [.row e sz []], ds⟩ K) : AW P T ρ c ⟨n, env, σ, ds⟩ K :=
  ⟨fun w C a hI hE => by
    obtain ⟨C1, I1, E1, r1, l1⟩ := nil_row (e := e) hI hz
    have hlt : o < σ.length := (List.getElem?_eq_some_iff.1 ho).1
    have ho1 : (σ ++ [.row e sz []])[o]? = some (.var cells) := by rw [List.getElem?_append_left hlt]; exact ho
    obtain ⟨en, he⟩ : ∃ en, C1.θ[o]? = some en := ⟨_, List.getElem?_eq_getElem (by rw [I1.len]; simp; omega)⟩
    obtain ⟨k1, b, cs, ty, k2, k3, k4⟩ := I1.ok o _ en ho1 he
    obtain ⟨c1, i1⟩ := I1.upd (w' := w) (o' := .var (cells.set off (.own σ.length 0))) ho1 he rfl (Nat.le_refl _) (.refl en) (fun _ _ _ => rfl) (fun b hb => .inl hb) (fun hle => ⟨k1, b, cs, ty, k2, k3, by
      refine ⟨by simp [k4.1], fun i v x hv hx => ?_⟩
      rcases set_get _ _ _ _ _ hx with ⟨e1, rfl⟩ | ⟨e1, e2⟩
      · subst e1
        have := nils_val (k4.2 off v _ hv hc)
        subst this
        exact r1.mono hle
      · exact (k4.2 i v x hv e2).mono hle⟩)
    have x1 := Ext.upd (w' := w) I1 (o' := .var (cells.set off (.own σ.length 0))) ho1 he rfl rfl rfl rfl (Nat.le_refl _) c1 (fun _ _ _ => rfl) (fun b hb => .inl hb)
    rw [List.set_append_left o _ hlt] at i1 x1
    have hE2 := (hE.mono l1).mono c1
    refine wp_mono (h.out w _ a i1 ⟨hE2.size, hE2.env, hE2.dlen, hE2.ds⟩) ?_
    rintro ex a' w' ⟨x, S', C', q1, q2, q3, q4, q5⟩
    exact ⟨x, S', C', q1, q2, q3, q4, (E1.trans x1).trans q5⟩⟩

/-- In a slot. -/
theorem AW.ghostE {ρ : Nat} {c : Code} {n : Nat} {env : List (Nat × Val)} {σ : List AObj} {ds : List Dfr} {K : AEx → St → Prop} (e sz t : Nat) (hz : 0 < sz) (ht : get env t = .c (.d .nils))
    (h : AW P T ρ c ⟨n, (t, .c (.own σ.length 0)) :: env, σ ++ [.row e sz []], ds⟩ K) : AW P T ρ c ⟨n, env, σ, ds⟩ K :=
  ⟨fun w C a hI hE => by
    obtain ⟨C1, I1, E1, r1, l1⟩ := nil_row (e := e) hI hz
    have hE2 := hE.mono l1
    refine wp_mono (h.out w _ a I1 ⟨hE2.size, fun s => ?_, hE2.dlen, hE2.ds⟩) ?_
    · simp only [get_cons]
      split
      · rename_i es
        subst es
        have := hE2.env t
        simp only [ht] at this
        have := nils_val (c_of this)
        rw [this]
        exact .c _ _ r1
      · exact hE2.env s
    · rintro ex a' w' ⟨x, S', C', q1, q2, q3, q4, q5⟩
      exact ⟨x, S', C', q1, q2, q3, q4, E1.trans q5⟩⟩

/-- From a state that tells less. -/
theorem AW.fits {ρ : Nat} {c : Code} {S I : St} {K : AEx → St → Prop} (hf : Fits S I) (hl : Nat.ble S.σ.length I.σ.length = true) (h : AW P T ρ c I K) : AW P T ρ c S K :=
  ⟨fun w C a hI hE => by
    obtain ⟨C1, i1, e1, x1⟩ := hf.ok hI hE
    have X := x1 (Nat.le_of_ble_eq_true hl) hI.len (.refl w C S.σ)
    refine wp_mono (h.out w C1 a i1 e1) ?_
    rintro ex a' w' ⟨x, S', C', q1, q2, q3, q4, q5⟩
    exact ⟨x, S', C', q1, q2, q3, q4, X.trans q5⟩⟩

end
end Go.Proofs.YtmaokphbfjpodaaGreatDoor.E

/- The engine, part 25: a deferred call whose first region recovers first. No conditions. -/
set_option linter.unusedVariables false
set_option linter.unusedSimpArgs false
set_option linter.unusedSectionVars false
namespace Go.Proofs.YtmaokphbfjpodaaGreatDoor.E
open Go

section
variable {P : Program} {T : Tab} (HT : TabOk P T)

theorem upon_recover {o : Oper} {a : Act} {next : Act → World → Prop} {Q : Exit → Act → World → Prop} {w' : World} (h : o.upon P a next Q (.ok .recover w')) : False := by
  simp [Oper.upon] at h

include HT in
theorem arunS_ok (ρ : Nat) (ops : Array Oper) {cs : List Frame} {w0 : World} {C0 : Cz} {σ0 : List AObj} {K : St → Prop} {KP : AV → St → Prop} {Q : Exit → Act → List Frame → World → Prop}
    (hn : ∀ S' w' C' a', K S' → Inv w' C' S'.σ → EnvOk w' C' a' S' → Ext w0 C0 σ0 w' C' S'.σ → Q .normal a' cs w')
    (hp : ∀ v x S' w' C' a, KP x S' → Inv w' C' S'.σ → EnvOk w' C' a S' → Ext w0 C0 σ0 w' C' S'.σ → RepA w' C' v x → Q (.panic [{ v := v, recovered := false }]) a cs w') :
    ∀ (l : List Oper) (k : Nat), (∀ (i : Nat) o, l[i]? = some o → ops[k + i]? = some o ∧ o.guard = none) → ∀ {w : World} {C : Cz} {a : Act} {S : St} (hI : Inv w C S.σ) (hE : EnvOk w C a S) (hX : Ext w0 C0 σ0 w C S.σ) (hk : arun P T ρ ops l S K KP), wpOpsS P ops Q (List.range' k l.length) a cs w
  | [], k, _, w, C, a, S, hI, hE, hX, hk => hn S w C a hk hI hE hX
  | o :: r, k, hl, w, C, a, S, hI, hE, hX, hk => by
    have ho : ops[k]? = some o := (hl 0 o rfl).1
    have hgn : o.guard = none := (hl 0 o rfl).2
    have hl' : ∀ (i : Nat) o, r[i]? = some o → ops[k + 1 + i]? = some o ∧ o.guard = none := fun i o' h => by
      have := hl (i + 1) o' (by simpa using h)
      rw [show k + 1 + i = k + (i + 1) by omega]
      exact this
    rw [List.length_cons, List.range'_succ]
    unfold wpOpsS
    simp only [ho]
    have run : o.wp P a w (fun a' w' => wpOpsS P ops Q (List.range' (k + 1) r.length) a' cs w') (fun e a' w' => Q e a' cs w') →
        (match (execOp a.eval o).run P w with
        | .ok .recover w' => (match recoverD cs with
          | some (v, cs') => wpOpsS P ops Q (List.range' (k + 1) r.length) (a.put o.dst v) cs' w'
          | none => wpOpsS P ops Q (List.range' (k + 1) r.length) (a.put o.dst .nilIface) cs w')
        | r' => o.upon P a (fun a' w' => wpOpsS P ops Q (List.range' (k + 1) r.length) a' cs w') (fun e a' w' => Q e a' cs w') r') := by
      intro h
      unfold Oper.wp at h
      split
      · rename_i w' hr
        rw [hr] at h
        exact (upon_recover h).elim
      · exact h
    simp only [arun] at hk
    split at hk
    · rename_i hg
      rw [if_pos (by simp [Region.wanted, hg])]
      exact run (astep_ok HT ρ hI hE hX hk (fun S' w' C' a' h1 h2 h3 h4 => arunS_ok ρ ops hn hp r (k + 1) hl' h2 h3 h4 h1) (fun v x S' w' C' h1 h2 h3 h4 h5 => hp v x S' w' C' a h1 h2 h3 h4 h5))
    · rename_i j want hg
      rw [hgn] at hg; cases hg

def noGuard : List Oper → Bool
  | [] => true
  | o :: l => o.guard.isNone && noGuard l
theorem noGuard_mem : ∀ {l : List Oper}, noGuard l = true → ∀ o ∈ l, o.guard = none
  | [], _, o, ho => (List.not_mem_nil ho).elim
  | q :: l, h, o, ho => by
    rw [noGuard, Bool.and_eq_true] at h
    rcases List.mem_cons.1 ho with e | e
    · rw [e]; exact Option.isNone_iff_eq_none.1 h.1
    · exact noGuard_mem h.2 o e

include HT in
theorem ADef.recoverL {ρ f : Nat} {fn : Func} {id : Nat} {o : Oper} {l : List Oper} {ops : Array Oper} {c : Code} {N d : Nat} {E : List (Nat × Val)} {rs : List ResultVar} (hf : P.funcs[f]? = some fn) (hb : fn.body = some (.seq (.region id ops false) c)) (hops : ops.toList = o :: l) (hng : noGuard l = true) (hN : fn.ntmps = N) (hr : fn.results.toList = rs)
    (hop : o.op = .call { callee := .builtin .recover, args := #[], argTypes := #[] }) (hg : o.guard = none) (hd : o.dst = some d) (hdN : Nat.blt d N = true)
    {args : List AV} {σ : List AObj} {u : AMode} {R : Out → AMode → List AObj → Prop} (he : env0 0 (args.map .c) = E) (hn : Nat.ble args.length N = true)
    (h : arun P T ρ ops l ⟨N, (d, .c u.val) :: E, σ, []⟩ (fun S' => AW P T ρ c S' (afinU T rs u.caught R)) (fun _ _ => False)) : ADef P f args σ u R :=
  ⟨fun w C vs um hI hv hM => by
    subst hN; subst hr; subst he
    refine callsD_of_wpS hf hb fun c0 cs hu => ?_
    refine wpS_seq (wpS_region ?_)
    have hst := start_env (fn := fn) (repL_vs hv) (by simpa using Nat.le_of_ble_eq_true hn) σ
    rw [← hu] at hM
    obtain ⟨v, um', m1, m2, m3⟩ := recoverD_ok (cs := cs) hM
    have hexec : (execOp (Act.eval { tmps := vs ++ Array.replicate (fn.ntmps - vs.size) undef, defers := [] }) o).run P w = .ok .recover w := by
      simp [execOp, hop, resolve, invoke, builtin]
    have ho : ops[0]? = some o := by rw [← Array.getElem?_toList, hops]; rfl
    have hsz : ops.size = l.length + 1 := by rw [← Array.length_toList, hops]; rfl
    have hl : ∀ (i : Nat) q, l[i]? = some q → ops[1 + i]? = some q ∧ q.guard = none := fun i q hq => by
      refine ⟨?_, noGuard_mem hng q (List.mem_of_getElem? hq)⟩
      rw [← Array.getElem?_toList, hops, Nat.add_comm, List.getElem?_cons_succ]; exact hq
    have key : ∀ Qb, Qb = (bodyPostS P fn c0 cs fun e um' w' => ∃ o u' σ' C', R o u' σ' ∧ ModeOk w' C' um' u' ∧ Inv w' C' σ' ∧ Ext w C σ w' C' σ' ∧ OutOk w' C' e o) →
        wpOpsS P ops (Exit.thenS (c.wpS P Qb) Qb) (List.range' 1 l.length) (Act.put { tmps := vs ++ Array.replicate (fn.ntmps - vs.size) undef, defers := [] } o.dst v) ({ c0 with mode := um' } :: cs) w := by
      rintro Qb rfl
      refine arunS_ok HT ρ ops (w0 := w) (C0 := C) (σ0 := σ) (fun S' w1 C1 a1 hA h2 h3 h4 => ?_) (fun v x S' w' C' a hA _ _ _ _ => hA.elim) l 1 hl hI (by rw [hd]; exact hst.put (S := start fn (args.map .c) σ) (blt_lt hdN) (.c _ _ m2)) (.refl w C σ) h
      refine wpS_of_wp (wp_mono (hA.out w1 C1 a1 h2 h3) ?_)
      rintro e a' w' ⟨x, ⟨n', env', σ', ds'⟩, C', hk, hx, hI', hE', hX1⟩
      have hX := h4.trans hX1
      cases ds' with
      | cons _ _ => cases x <;> exact hk.elim
      | nil =>
      have hd0 : a'.defers = [] := List.eq_nil_of_length_eq_zero (by rw [hE'.dlen]; rfl)
      have m1' : ModeOk w' C' um' u.caught := by
        cases um' <;> cases hu' : u.caught <;> rw [hu'] at m1 <;> try exact m1.elim
        · trivial
        · obtain ⟨v, e, hr⟩ := m1
          exact ⟨v, e, hr.mono hX.le⟩
      have fin : aResults T env' σ' fn.results.toList (fun vs => R (.ret (oneOf vs)) u.caught σ') →
          a'.defers = [] ∧ ∃ u', ({ c0 with mode := um' } :: cs : List Frame) = { c0 with mode := u' } :: cs ∧ ∃ v, (results fn a'.tmps).run P w' = .ok v w' ∧
            ∃ o u'' σ' C', R o u'' σ' ∧ ModeOk w' C' u' u'' ∧ Inv w' C' σ' ∧ Ext w C σ w' C' σ' ∧ OutOk w' C' (.returned v) o := fun hk => by
        obtain ⟨vs', us, k1, k2, k3⟩ := aResults_ok HT hI' hE' _ hk
        exact ⟨hd0, um', rfl, _, results_run k2, _, _, σ', C', k1, m1', hI', hX, _, rfl, one_tuple k3⟩
      cases e <;> cases x <;> first | (exact hx.elim) | skip
      · exact fin hk
      · exact hk.elim
      · exact fin hk
      · obtain ⟨v, rfl, hr⟩ := hx
        exact ⟨hd0, um', rfl, _, _, σ', C', hk, m1', hI', hX, v, rfl, hr⟩
    rw [hsz, List.range_eq_range', List.range'_succ]
    unfold wpOpsS
    simp only [ho]
    rw [if_pos (by simp [Region.wanted, hg])]
    rw [hexec]
    rcases m3 with m3 | ⟨m3, m4, m5⟩
    · simp only [m3]
      exact key _ rfl
    · simp only [m3]
      subst m5
      have key := key _ rfl
      rw [m4] at key
      exact key⟩

end
end Go.Proofs.YtmaokphbfjpodaaGreatDoor.E

/- The engine, part 26: a call whose argument tells more than the contract asks. No conditions. -/
set_option linter.unusedVariables false
set_option linter.unusedSimpArgs false
set_option linter.unusedSectionVars false
namespace Go.Proofs.YtmaokphbfjpodaaGreatDoor.E
open Go

theorem RepD.front {w : World} {rg : Nat → Option Nat} {v : Value} {r : Nat} {a b : List DV} (h : RepD w rg v (.rp r (a ++ b))) : RepD w rg v (.rp r a) := by
  cases h with
  | rp _ b' o _ cs e fz vs hr hh hcell hrep =>
    exact .rp r b' o a cs e fz vs hr hh (fun i hi => hcell i (by simp; omega)) (fun i x hx => hrep i x (by
      rw [List.getElem?_append_left (List.getElem?_eq_some_iff.1 hx).1]; exact hx))

/-- The first tells no less than the second. -/
inductive ArgLe : Val → Val → Prop where
  | same (x : Val) : ArgLe x x
  | rp (r : Nat) (a b : List DV) : ArgLe (.c (.d (.rp r (a ++ b)))) (.c (.d (.rp r a)))
theorem ArgLe.rep {x y : Val} (h : ArgLe x y) {w : World} {C : Cz} {v : Value} (g : RepV w C v x) : RepV w C v y := by
  cases h with
  | same => exact g
  | rp r a b => exact .c _ _ (.d _ _ (repA_d (c_of g)).front)
inductive ArgsLe : List Val → List Val → Prop where
  | nil : ArgsLe [] []
  | cons {x y : Val} {l m : List Val} (h : ArgLe x y) (t : ArgsLe l m) : ArgsLe (x :: l) (y :: m)
theorem ArgsLe.rep {xs ys : List Val} (h : ArgsLe xs ys) : ∀ {w : World} {C : Cz} {vs : List Value}, RepVs w C vs xs → RepVs w C vs ys := by
  induction h with
  | nil => intro w C vs g; exact g
  | @cons x y l m h t ih =>
    intro w C vs g
    obtain ⟨g1, g2⟩ := g
    cases vs with
    | nil => simp at g1
    | cons v vs =>
      have := ih (w := w) (C := C) (vs := vs) ⟨by simpa using g1, fun i v x hv hx => g2 (i + 1) v x (by simpa using hv) (by simpa using hx)⟩
      refine ⟨by simpa using this.1, fun i u z hu hz => ?_⟩
      cases i with
      | zero => simp at hu hz; subst hu; subst hz; exact h.rep (g2 0 _ _ rfl rfl)
      | succ i => exact this.2 i u z (by simpa using hu) (by simpa using hz)
theorem ACall.args {P : Program} {f : FuncId} {xs ys : List Val} {σ : List AObj} {R : Out → List AObj → Prop} (h : ArgsLe xs ys) (c : ACall P f ys σ R) : ACall P f xs σ R :=
  ⟨fun w C vs hI hv => c.out w C vs hI (h.rep hv)⟩
end Go.Proofs.YtmaokphbfjpodaaGreatDoor.E

/- The engine, part 27: a call whose argument is a nil slice that is to grow: by the contract at an own row of no elements. No conditions. -/
set_option linter.unusedVariables false
set_option linter.unusedSimpArgs false
set_option linter.unusedSectionVars false
namespace Go.Proofs.YtmaokphbfjpodaaGreatDoor.E
open Go

/-- The second has the own row n where the first has nil. -/
def ghosts (n : Nat) : List Val → List Val → Prop
  | [], [] => True
  | x :: xs, y :: ys => (x = y ∨ (x = .c (.d .nils) ∧ y = .c (.own n 0))) ∧ ghosts n xs ys
  | _, _ => False
theorem ghosts_rep {w : World} {C : Cz} {n : Nat} (h0 : RepA w C (.slice none 0 0) (.own n 0)) : ∀ {xs ys : List Val} {vs : List Value}, ghosts n xs ys → RepVs w C vs xs → RepVs w C vs ys
  | [], [], vs, _, h => h
  | x :: xs, y :: ys, [], _, h => by have := h.1; simp at this
  | x :: xs, y :: ys, v :: vs, g, h => by
    obtain ⟨h1, h2⟩ := h.tail
    refine .cons ?_ (ghosts_rep h0 g.2 h2)
    rcases g.1 with rfl | ⟨rfl, rfl⟩
    · exact h1
    · have := nils_val (c_of h1)
      subst this
      exact .c _ _ h0
  | [], _ :: _, vs, g, _ => g.elim
  | _ :: _, [], vs, g, _ => g.elim
theorem ACall.ghost {P : Program} {f : FuncId} {xs ys : List Val} {σ : List AObj} {R : Out → List AObj → Prop} (e sz : Nat) (hz : 0 < sz) (hg : ghosts σ.length xs ys) (c : ACall P f ys (σ ++ [.row e sz []]) R) : ACall P f xs σ R :=
  ⟨fun w C vs hI hv => by
    obtain ⟨C1, I1, E1, r1, l1⟩ := nil_row (e := e) hI hz
    refine (c.out w C1 vs I1 (ghosts_rep r1 hg (hv.mono l1))).mono ?_
    rintro en w' ⟨o, σ', C', q1, q2, q3, q4⟩
    exact ⟨o, σ', C', q1, q2, E1.trans q3, q4⟩⟩
end Go.Proofs.YtmaokphbfjpodaaGreatDoor.E

/- The engine, part 28: drawn regions with forks (loud operations that do not wait for each other). No conditions. -/
set_option linter.unusedVariables false
set_option linter.unusedSimpArgs false
set_option linter.unusedSectionVars false
namespace Go.Proofs.YtmaokphbfjpodaaGreatDoor.E
open Go

section
variable {P : Program} {T : Tab} (HT : TabOk P T)

/-- What holds while a drawn region runs: 'pend' is told of but not done, 'rest' is neither. -/
structure SimT (P : Program) (T : Tab) (ρ : Nat) (ops : Array Oper) (E0 : List (Nat × Val)) (w0 : World) (C0 : Cz) (σ0 : List AObj) (listed : Array Bool) (pend rest ap : List Nat) (n : Nat) (env : List (Nat × Val)) (σ : List AObj) (ds : List Dfr)
    (a : Act) (w : World) (C : Cz) : Prop where
  size : listed.size = ops.size
  lst : ∀ j, j < ops.size → (listed.getD j true = false ↔ j ∈ pend ∨ j ∈ rest)
  lt : ∀ j, j ∈ pend ∨ j ∈ rest → j < ops.size
  nd : (pend ++ rest).Nodup
  hI : Inv w C σ
  hE : EnvOk w C a ⟨n, mask ops pend env, σ, ds⟩
  hX : Ext w0 C0 σ0 w C σ
  pok : ∀ j ∈ pend, ∀ o, ops[j]? = some o → Pend P T ρ ops env σ o ∧ (wantA ops env o = some true → j ∈ ap)
  pq : ∀ j ∈ pend, ∀ o, ops[j]? = some o → loud o = false ∧ ∀ d, o.dst = some d → d < n
  cl : ∀ j m, j < ops.size → j ∉ rest → aft ops m j = true → m ∉ rest
  e0 : ∀ t, get E0 t = .junk ∨ ((∀ (j : Nat) (o : Oper), ops[j]? = some o → o.dst ≠ some t) ∧ get E0 t = get env t)
  cl2 : ∀ k m, k < ops.size → k ∉ pend → k ∉ rest → aft ops m k = true → m ∉ pend

variable {ρ : Nat} {ops : Array Oper} {E0 : List (Nat × Val)} {w0 : World} {C0 : Cz} {σ0 : List AObj} {listed : Array Bool} {pend rest ap : List Nat} {n : Nat} {env : List (Nat × Val)} {σ : List AObj} {ds : List Dfr} {a : Act} {w : World} {C : Cz}

/-- The same slots, told otherwise. -/
theorem SimT.told {env1 : List (Nat × Val)} (h : SimT P T ρ ops E0 w0 C0 σ0 listed pend rest ap n env σ ds a w C) (he : ∀ t, get env1 t = get env t) : SimT P T ρ ops E0 w0 C0 σ0 listed pend rest ap n env1 σ ds a w C :=
  { h with
    hE := h.hE.weak fun t => by
      rcases mask_get (ops := ops) (env := env1) (t := t) (l := pend) with ⟨_, h2⟩ | ⟨h1, h2⟩
      · exact .inl h2
      · right
        rw [h2, he]
        rcases mask_get (ops := ops) (env := env) (t := t) (l := pend) with ⟨⟨j, h3, h4⟩, _⟩ | ⟨_, h3⟩
        · exact absurd h4 (h1 j h3)
        · exact h3.symm
    pok := fun j hj o ho => ⟨(h.pok j hj o ho).1.same (fun t _ => (he t).symm) (fun d _ => he d), fun hw => (h.pok j hj o ho).2 (by rw [← wantA_same (env := env1) fun t _ => he t]; exact hw)⟩
    e0 := fun t => by
      rcases h.e0 t with e | ⟨e1, e2⟩
      · exact .inl e
      · exact .inr ⟨e1, by rw [e2, he]⟩ }

/-- The head of the rest is told of. -/
theorem SimT.push (hA : Apart ops) {h : Nat} {r ap' : List Nat} (r1 : ∀ m ∈ h :: r, aft ops m h = false) (H : SimT P T ρ ops E0 w0 C0 σ0 listed pend (h :: r) ap n env σ ds a w C) {o : Oper} (ho : ops[h]? = some o) (hqq : loud o = false) (hdl : ∀ d, o.dst = some d → d < n) {v : Val}
    (hp : Pend P T ρ ops (putE env o.dst v) σ o) (hap : wantA ops (putE env o.dst v) o = some true → h ∈ ap') (hsub : ∀ j ∈ ap, j ∈ ap')
    (hrd : ∀ j ∈ pend, ∀ oj, ops[j]? = some oj → ∀ d, o.dst = some d → d ∉ reads ops oj) :
    SimT P T ρ ops E0 w0 C0 σ0 listed (h :: pend) r ap' n (putE env o.dst v) σ ds a w C := by
  have hnd := H.nd
  have hnd' : (h :: pend ++ r).Nodup := by
    have : (pend ++ h :: r).Perm (h :: pend ++ r) := List.perm_middle
    exact this.nodup_iff.1 hnd
  have hhp : h ∉ pend := fun hh => by
    have := (List.nodup_cons.1 hnd').1
    exact this (by simp [hh])
  have hlt := H.lt h (.inr (by simp))
  refine ⟨H.size, fun j hj => (H.lst j hj).trans ?_, fun j hj => H.lt j ?_, hnd', H.hI, ?_, H.hX, ?_, fun j hj oj hoj => ?_, ?_, ?_, ?_⟩
  · simp only [List.mem_cons]
    constructor
    · rintro (h1 | h1 | h1)
      · exact .inl (.inr h1)
      · exact .inl (.inl h1)
      · exact .inr h1
    · rintro ((h1 | h1) | h1)
      · exact .inr (.inl h1)
      · exact .inl h1
      · exact .inr (.inr h1)
  · simp only [List.mem_cons] at hj ⊢
    rcases hj with (h1 | h1) | h1
    · exact .inr (.inl h1)
    · exact .inl h1
    · exact .inr (.inr h1)
  · refine H.hE.weak fun t => ?_
    rcases mask_get (ops := ops) (env := putE env o.dst v) (t := t) (l := h :: pend) with ⟨_, h2⟩ | ⟨h1, h2⟩
    · exact .inl h2
    · right
      rw [h2, putE_get, if_neg (by rw [← dstOf_some ho]; exact h1 h (by simp))]
      rcases mask_get (ops := ops) (env := env) (t := t) (l := pend) with ⟨⟨j, h3, h4⟩, _⟩ | ⟨_, h3⟩
      · exact absurd h4 (h1 j (by simp [h3]))
      · exact h3.symm
  · intro j hj oj hoj
    rcases List.mem_cons.1 hj with rfl | hj
    · rw [ho] at hoj; cases hoj
      exact ⟨hp, hap⟩
    · obtain ⟨q1, q2⟩ := H.pok j hj oj hoj
      have hr : ∀ t ∈ reads ops oj, get env t = get (putE env o.dst v) t := fun t ht => by
        rw [putE_get]
        split
        · rename_i e; exact absurd ht (hrd j hj oj hoj t e)
        · rfl
      refine ⟨q1.same hr fun d hd => ?_, fun hw => hsub j (q2 (by rw [wantA_same hr]; exact hw))⟩
      rw [putE_get]
      split
      · rename_i e
        rcases (hA h j o oj d ho hoj e).1 with e' | e'
        · subst e'; exact absurd hj hhp
        · exact absurd hd e'
      · rfl
  · rcases List.mem_cons.1 hj with rfl | hj
    · rw [ho] at hoj; cases hoj
      exact ⟨hqq, hdl⟩
    · exact H.pq j hj oj hoj
  · intro j m hj hjr ha hm
    by_cases e : j = h
    · subst e
      have := r1 m (by simp [hm])
      rw [ha] at this; cases this
    · exact H.cl j m hj (by simp [e, hjr]) ha (by simp [hm])
  · intro t
    rcases H.e0 t with e | ⟨e1, e2⟩
    · exact .inl e
    · exact .inr ⟨e1, by rw [putE_get, if_neg (e1 h o ho), e2]⟩
  · intro k m hk hkp hkr ha hm
    have hkh : k ≠ h := fun e => hkp (by simp [e])
    have hkr' : k ∉ h :: r := by simp [hkh, hkr]
    rcases List.mem_cons.1 hm with rfl | hm
    · exact H.cl k m hk hkr' ha (by simp)
    · exact H.cl2 k m hk (fun hh => hkp (by simp [hh])) hkr' ha hm

/-- Nothing that waits reads what the head writes, if the head is quiet. -/
theorem SimT.noread (hA : Apart ops) {h : Nat} {r : List Nat} (H : SimT P T ρ ops E0 w0 C0 σ0 listed pend (h :: r) ap n env σ ds a w C) {o : Oper} (ho : ops[h]? = some o)
    (hq : loud o = false ∨ ∀ j ∈ pend, aft ops j h = false) : ∀ j ∈ pend, ∀ oj, ops[j]? = some oj → ∀ d, o.dst = some d → d ∉ reads ops oj := by
  intro j hj oj hoj d hd hr
  have hnd := H.nd
  have hjr : j ∉ h :: r := fun hh => by
    have := List.nodup_append.1 hnd
    exact this.2.2 j hj j hh rfl
  rcases (hA h j o oj d ho hoj hd).2 hr with h1 | ⟨h1, h2⟩
  · exact H.cl j h (H.lt j (.inl hj)) hjr h1 (by simp)
  · rcases hq with hq | hq
    · rw [hq] at h1; cases h1
    · rcases h2 with h2 | h2
      · subst h2; exact hjr (by simp)
      · rw [hq j hj] at h2; cases h2

theorem noselfT (hA : Apart ops) {h : Nat} {r : List Nat} (r1 : ∀ m ∈ h :: r, aft ops m h = false) (H : SimT P T ρ ops E0 w0 C0 σ0 listed pend (h :: r) ap n env σ ds a w C) {o : Oper} (ho : ops[h]? = some o) (hq : loud o = false) : ∀ d, o.dst = some d → d ∉ reads ops o := by
  intro d hd hr
  rcases (hA h h o o d ho ho hd).2 hr with h1 | ⟨h1, _⟩
  · have := r1 h (by simp)
    rw [h1] at this; cases this
  · rw [hq] at h1; cases h1

theorem SimT.pushSkip (hA : Apart ops) {h : Nat} {r : List Nat} (r1 : ∀ m ∈ h :: r, aft ops m h = false) (H : SimT P T ρ ops E0 w0 C0 σ0 listed pend (h :: r) ap n env σ ds a w C) {o : Oper} (ho : ops[h]? = some o) (hw : wantA ops env o = some false) (hqq : loud o = false) (hdl : ∀ d, o.dst = some d → d < n)
    (hrd : ∀ j ∈ pend, ∀ oj, ops[j]? = some oj → ∀ d, o.dst = some d → d ∉ reads ops oj) (hself : ∀ d, o.dst = some d → d ∉ reads ops o) :
    SimT P T ρ ops E0 w0 C0 σ0 listed (h :: pend) r ap n (putE env o.dst (.tup [])) σ ds a w C := by
  have hr : ∀ t ∈ reads ops o, get env t = get (putE env o.dst (.tup [])) t := fun t ht => by
    rw [putE_get]
    split
    · rename_i e; exact absurd ht (hself t e)
    · rfl
  refine H.push hA r1 ho hqq hdl ⟨.tup [], fun d hd => by rw [putE_get, if_pos hd], .inl ⟨by rw [← wantA_same hr]; exact hw, rfl⟩⟩ (fun hw' => ?_) (fun _ h => h) hrd
  rw [← wantA_same hr, hw] at hw'; cases hw'

theorem SimT.pushGo (hA : Apart ops) {h : Nat} {r : List Nat} (r1 : ∀ m ∈ h :: r, aft ops m h = false) (H : SimT P T ρ ops E0 w0 C0 σ0 listed pend (h :: r) ap n env σ ds a w C) {o : Oper} (ho : ops[h]? = some o) (hw : wantA ops env o = some true) (hq : loud o = false) (hqk : qok env o = true) (hdl : ∀ d, o.dst = some d → d < n) {v : Val}
    (hv : aop P T ρ env σ o (fun u τ => u = v ∧ τ = σ) (fun _ => False) (fun _ _ => False)) :
    SimT P T ρ ops E0 w0 C0 σ0 listed (h :: pend) r (h :: ap) n (putE env o.dst v) σ ds a w C := by
  have hself := noselfT hA r1 H ho hq
  have hr : ∀ t ∈ reads ops o, get env t = get (putE env o.dst v) t := fun t ht => by
    rw [putE_get]
    split
    · rename_i e; exact absurd ht (hself t e)
    · rfl
  exact H.push hA r1 ho hq hdl ⟨v, fun d hd => by rw [putE_get, if_pos hd], .inr ⟨by rw [← wantA_same hr]; exact hw, ⟨hq, by rw [← qok_congr (ev_same fun t ht => hr t (by simp [reads, ht]))]; exact hqk⟩, by rw [← aop_congr (ev_same fun t ht => hr t (by simp [reads, ht]))]; exact hv⟩⟩ (fun _ => by simp) (fun _ h => by simp [h]) (H.noread hA ho (.inl hq))

/-- What a ready operation reads is not masked. -/
theorem SimT.reads (hA : Apart ops) (H : SimT P T ρ ops E0 w0 C0 σ0 listed pend rest ap n env σ ds a w C) {i : Nat} {o : Oper} (ho : ops[i]? = some o) (hb : ∀ m, m ∈ pend ∨ m ∈ rest → aft ops m i = false) :
    ∀ t ∈ reads ops o, get (mask ops pend env) t = get env t := by
  intro t ht
  rcases mask_get (ops := ops) (env := env) (t := t) (l := pend) with ⟨⟨j, h1, h2⟩, _⟩ | ⟨_, h3⟩
  · exfalso
    obtain ⟨oj, hoj, hd⟩ := dstOf_op h2
    rcases (hA j i oj o t hoj ho hd).2 ht with h4 | ⟨h4, _⟩
    · rw [hb j (.inl h1)] at h4; cases h4
    · rw [(H.pq j h1 oj hoj).1] at h4; cases h4
  · exact h3

/-- What waited is done. -/
theorem SimT.pop (H : SimT P T ρ ops E0 w0 C0 σ0 listed pend rest ap n env σ ds a w C) {i : Nat} (hi : i ∈ pend) {o : Oper} (ho : ops[i]? = some o) {v : Val} (hv : ∀ d, o.dst = some d → get env d = v) {a' : Act} {w' : World} {C' : Cz}
    (hI : Inv w' C' σ) (hE : EnvOk w' C' a' ⟨n, putE (mask ops pend env) o.dst v, σ, ds⟩) (hX : Ext w C σ w' C' σ) (hb : ∀ m, m ∈ pend ∨ m ∈ rest → aft ops m i = false) : SimT P T ρ ops E0 w0 C0 σ0 (listed.setIfInBounds i true) (pend.erase i) rest ap n env σ ds a' w' C' := by
  have hnd := List.nodup_append.1 H.nd
  have hir : i ∉ rest := fun h => hnd.2.2 i hi i h rfl
  have hne : i ∉ pend.erase i := hnd.1.not_mem_erase
  refine ⟨by simp [H.size], fun j hj => ?_, fun j hj => H.lt j (hj.imp List.mem_of_mem_erase id), ?_, hI, hE.weak fun t => ?_, H.hX.trans hX, fun j hj => H.pok j (List.mem_of_mem_erase hj), fun j hj => H.pq j (List.mem_of_mem_erase hj), H.cl, H.e0, fun k m hk hkp hkr ha hm => ?_⟩
  · rw [getD_set H.size hj]
    split
    · rename_i e; subst e
      simp [hne, hir]
    · rename_i e
      rw [H.lst j hj, List.mem_erase_of_ne e]
  · exact List.nodup_append.2 ⟨hnd.1.erase i, hnd.2.1, fun x hx y hy => hnd.2.2 x (List.mem_of_mem_erase hx) y hy⟩
  · rcases mask_get (ops := ops) (env := env) (t := t) (l := pend.erase i) with ⟨_, h2⟩ | ⟨h1, h2⟩
    · exact .inl h2
    · right
      rw [h2, putE_get]
      split
      · rename_i e; exact hv t e
      · rename_i e
        rcases mask_get (ops := ops) (env := env) (t := t) (l := pend) with ⟨⟨j, h3, h4⟩, _⟩ | ⟨_, h3⟩
        · by_cases ej : j = i
          · subst ej
            rw [dstOf_some ho] at h4
            exact absurd h4 e
          · exact absurd h4 (h1 j ((List.mem_erase_of_ne ej).2 h3))
        · exact h3.symm
  · have hm' := List.mem_of_mem_erase hm
    by_cases e : k = i
    · subst e
      rw [hb m (.inl hm')] at ha; cases ha
    · exact H.cl2 k m hk (fun hh => hkp ((List.mem_erase_of_ne e).2 hh)) hkr ha hm'

include HT in
theorem SimT.stepPend (hA : Apart ops) (H : SimT P T ρ ops E0 w0 C0 σ0 listed pend rest ap n env σ ds a w C) {i : Nat} (hi : i ∈ pend) {o : Oper} (ho : ops[i]? = some o) (hb : ∀ m, m ∈ pend ∨ m ∈ rest → aft ops m i = false)
    {next : Act → World → Prop} {Q : Exit → Act → World → Prop}
    (hn : ∀ a' w' C', SimT P T ρ ops E0 w0 C0 σ0 (listed.setIfInBounds i true) (pend.erase i) rest ap n env σ ds a' w' C' → next a' w') : wpOp P ops Q i next a w := by
  have hr := H.reads hA ho hb
  obtain ⟨⟨v, hv, hc⟩, _⟩ := H.pok i hi o ho
  obtain ⟨_, hdl⟩ := H.pq i hi o ho
  unfold wpOp
  simp only [ho]
  rcases hc with ⟨hw, rfl⟩ | ⟨hw, hq, hop⟩
  · have hw' : Region.wanted o (yielded ops a.tmps) = false := wanted_of H.hE ((wantA_same hr).trans hw)
    rw [if_neg (by rw [hw']; decide)]
    exact hn _ _ C (H.pop hi ho hv H.hI (H.hE.putE hdl rep_undef) (.refl w C σ) hb)
  · have hw' : Region.wanted o (yielded ops a.tmps) = true := wanted_of H.hE ((wantA_same hr).trans hw)
    rw [if_pos hw']
    left
    rw [← aop_congr (ev_same fun t ht => hr t (by simp [E.reads, ht]))] at hop
    refine aop_ok HT ρ (S := ⟨n, mask ops pend env, σ, ds⟩) H.hI H.hE hop (fun u w' C' x σ' hx h2 h3 h4 => ?_) (fun d x hx _ => hx.elim) (fun u x w' C' σ' hx _ _ _ => hx.elim)
    obtain ⟨rfl, rfl⟩ := hx
    exact hn _ _ C' (H.pop hi ho hv h2 ((H.hE.mono h3.le).putE hdl h4) h3 hb)

/-- The head of the rest, a loud one, is done. -/
theorem SimT.stepLoud (hA : Apart ops) {i : Nat} {r : List Nat} (r1 : ∀ m ∈ i :: r, aft ops m i = false) (H : SimT P T ρ ops E0 w0 C0 σ0 listed pend (i :: r) ap n env σ ds a w C) {o : Oper} (ho : ops[i]? = some o) (hb : ∀ j ∈ pend, aft ops j i = false) {v : Val} {ap' : List Nat} {σ' : List AObj}
    {a' : Act} {w' : World} {C' : Cz} (hI : Inv w' C' σ') (hE : EnvOk w' C' a' ⟨n, putE (mask ops pend env) o.dst v, σ', ds⟩) (hX : Ext w C σ w' C' σ')
    (hp : ∀ j ∈ pend, ∀ oj, ops[j]? = some oj → Pend P T ρ ops (putE env o.dst v) σ' oj ∧ (wantA ops (putE env o.dst v) oj = some true → j ∈ ap')) :
    SimT P T ρ ops E0 w0 C0 σ0 (listed.setIfInBounds i true) pend r ap' n (putE env o.dst v) σ' ds a' w' C' := by
  have hnd := List.nodup_append.1 H.nd
  have hip : i ∉ pend := fun h => hnd.2.2 i h i (by simp) rfl
  have hir : i ∉ r := (List.nodup_cons.1 hnd.2.1).1
  refine ⟨by simp [H.size], fun j hj => ?_, fun j hj => H.lt j (hj.imp id (by simp +contextual)), ?_, hI, hE.weak fun t => ?_, H.hX.trans hX, hp, H.pq, ?_, fun t => ?_, fun k m hk hkp hkr ha hm => ?_⟩
  · rw [getD_set H.size hj]
    split
    · rename_i e; subst e
      simp [hip, hir]
    · rename_i e
      rw [H.lst j hj]
      simp [e]
  · exact List.nodup_append.2 ⟨hnd.1, (List.nodup_cons.1 hnd.2.1).2, fun x hx y hy => hnd.2.2 x hx y (by simp [hy])⟩
  · rcases mask_get (ops := ops) (env := putE env o.dst v) (t := t) (l := pend) with ⟨_, h2⟩ | ⟨h1, h2⟩
    · exact .inl h2
    · right
      rw [h2, putE_get, putE_get]
      split
      · rfl
      · rcases mask_get (ops := ops) (env := env) (t := t) (l := pend) with ⟨⟨j, h3, h4⟩, _⟩ | ⟨_, h3⟩
        · exact absurd h4 (h1 j h3)
        · exact h3.symm
  · intro j m hj hjr ha hm
    by_cases e : j = i
    · subst e
      have := r1 m (by simp [hm])
      rw [ha] at this; cases this
    · exact H.cl j m hj (by simp [e, hjr]) ha (by simp [hm])
  · rcases H.e0 t with e | ⟨e1, e2⟩
    · exact .inl e
    · exact .inr ⟨e1, by rw [putE_get, if_neg (e1 i o ho), e2]⟩
  · by_cases e : k = i
    · subst e
      rw [hb m hm] at ha; cases ha
    · exact H.cl2 k m hk hkp (by simp [e, hkr]) ha hm

/-- What is ready waits for nothing. -/
theorem SimT.ready_free (H : SimT P T ρ ops E0 w0 C0 σ0 listed pend rest ap n env σ ds a w C) {i : Nat} (hi : i ∈ Region.ready .any ops listed) : ∀ m, m ∈ pend ∨ m ∈ rest → aft ops m i = false := by
  intro m hm
  obtain ⟨_, o, ho, hall⟩ := mem_ready.1 hi
  cases h : aft ops m i with
  | false => rfl
  | true =>
    obtain ⟨o', ho', e, he, hbd, hem⟩ := aft_mem h
    rw [ho] at ho'; cases ho'
    have h1 := hall e he hbd
    rw [hem] at h1
    have h2 := (H.lst m (H.lt m hm)).2 hm
    rw [getD_tf (by rw [H.size]; exact H.lt m hm), h1] at h2; cases h2

/-- While something is left, something is ready. -/
theorem SimT.some_ready (H : SimT P T ρ ops E0 w0 C0 σ0 listed pend rest ap n env σ ds a w C) (hB : ∀ j oj, ops[j]? = some oj → ∀ e ∈ oj.after, Region.binds .any e = true → e.on < j) :
    ∀ j, j ∈ pend ∨ j ∈ rest → Region.ready .any ops listed ≠ [] := by
  intro j
  induction j using Nat.strongRecOn with
  | _ j ih =>
    intro hj
    have hlt := H.lt j hj
    obtain ⟨o, ho⟩ : ∃ o, ops[j]? = some o := ⟨_, Array.getElem?_eq_getElem hlt⟩
    by_cases hall : ∀ e ∈ o.after, Region.binds .any e = true → listed.getD e.on false = true
    · intro hnil
      have : j ∈ Region.ready .any ops listed := mem_ready.2 ⟨(H.lst j hlt).2 hj, o, ho, hall⟩
      rw [hnil] at this; cases this
    · simp only [Classical.not_forall] at hall
      obtain ⟨e, he, hb, hf⟩ := hall
      have hl := hB j o ho e he hb
      refine ih e.on hl ((H.lst e.on (by omega)).1 ?_)
      rw [getD_tf (by rw [H.size]; omega)]
      simpa using hf

theorem SimT.perm {rest' : List Nat} (H : SimT P T ρ ops E0 w0 C0 σ0 listed pend rest ap n env σ ds a w C) (hp : rest.Perm rest') : SimT P T ρ ops E0 w0 C0 σ0 listed pend rest' ap n env σ ds a w C :=
  have hm : ∀ j, j ∈ rest ↔ j ∈ rest' := fun j => hp.mem_iff
  { H with
    lst := fun j hj => by rw [H.lst j hj, hm]
    lt := fun j hj => H.lt j (by rwa [hm])
    nd := (List.Perm.append_left pend hp).nodup_iff.1 H.nd
    cl := fun j m hj hr ha => by rw [← hm]; exact H.cl j m hj (by rwa [hm]) ha
    cl2 := fun k m hk h1 h2 ha => H.cl2 k m hk h1 (by rwa [hm]) ha }

/-- Orders: a fork is told for each branch. -/
inductive OT where
  | nil
  | op (i : Nat) (t : OT)
  | alt (a b : OT)

def firsts : OT → List Nat
  | .nil => []
  | .op i _ => [i]
  | .alt a b => firsts a ++ firsts b

def lateB (ops : Array Oper) (R : List Nat) (j : Nat) : Bool := R.any (fun m => aft ops m j)
/-- The checks: what is left, and the heads of the other branches. -/
def okT (ops : Array Oper) : OT → List Nat → List Nat → Bool
  | .nil, R, _ => R.isEmpty
  | .op i t, R, hs => R.contains i && !lateB ops R i && (match hs with | [] => !loudAt ops i | _ => false) && okT ops t (R.erase i) [] ||
      R.contains i && !lateB ops R i && loudAt ops i && R.all (fun j => Nat.beq j i || hs.contains j || lateB ops R j) && okT ops t (R.erase i) []
  | .alt a b, R, hs => okT ops a R (hs ++ firsts b) && okT ops b R (hs ++ firsts a) && loudT ops a && loudT ops b
where
  loudT (ops : Array Oper) : OT → Bool
  | .nil => false
  | .op i _ => loudAt ops i
  | .alt a b => loudT ops a && loudT ops b

structure Fork (A B : Prop) : Prop where
  a : A
  b : B
def arunT (P : Program) (T : Tab) (ρ : Nat) (ops : Array Oper) (E0 : List (Nat × Val)) : OT → List Nat → St → (St → Prop) → (AV → St → Prop) → Prop
  | .nil, ap, S, K, KP => K S
  | .op i r, ap, S, K, KP => match ops[i]?, S with
    | some o, ⟨n, env, σ, ds⟩ => stepD P T ρ ops E0 ap i o n env σ ds (fun ap' S' => arunT P T ρ ops E0 r ap' S' K KP) KP
    | none, _ => False
  | .alt a b, ap, S, K, KP => Fork (arunT P T ρ ops E0 a ap S K KP) (arunT P T ρ ops E0 b ap S K KP)

theorem okT_loud {t : OT} : ∀ {R hs : List Nat}, okT ops t R hs = true → okT.loudT ops t = true → ∀ j ∈ R, lateB ops R j = true ∨ j ∈ hs ∨ j ∈ firsts t := by
  induction t with
  | nil => intro R hs h _ j hj; simp only [okT, List.isEmpty_iff] at h; subst h; cases hj
  | op i t ih =>
    intro R hs h hl j hj
    simp only [okT.loudT] at hl
    simp only [okT, hl, Bool.not_true, Bool.or_eq_true, Bool.and_eq_true, List.all_eq_true] at h
    rcases h with ⟨⟨_, h⟩, _⟩ | ⟨⟨_, h⟩, _⟩
    · cases hs <;> cases h
    · rcases h j hj with (h | h) | h
      · exact .inr (.inr (by simp [firsts, Nat.eq_of_beq_eq_true h]))
      · exact .inr (.inl (by simpa using h))
      · exact .inl h
  | alt a b ia ib =>
    intro R hs h hl j hj
    simp only [okT, Bool.and_eq_true] at h
    rcases ia h.1.1.1 h.1.2 j hj with h1 | h1 | h1
    · exact .inl h1
    · rcases List.mem_append.1 h1 with h1 | h1
      · exact .inr (.inl h1)
      · exact .inr (.inr (by simp [firsts, h1]))
    · exact .inr (.inr (by simp [firsts, h1]))
/-- The branch that begins so. -/
theorem branch {K : St → Prop} {KP : AV → St → Prop} {S : St} {t : OT} {i : Nat} : ∀ {R hs : List Nat}, okT ops t R hs = true → arunT P T ρ ops E0 t ap S K KP → i ∈ firsts t →
    ∃ t' hs', okT ops (.op i t') R hs' = true ∧ arunT P T ρ ops E0 (.op i t') ap S K KP := by
  induction t with
  | nil => intro R hs _ _ h; simp [firsts] at h
  | op j t ih => intro R hs h1 h2 h; simp [firsts] at h; subst h; exact ⟨t, hs, h1, h2⟩
  | alt a b ia ib =>
    intro R hs h1 h2 h
    simp only [okT, Bool.and_eq_true] at h1
    rcases List.mem_append.1 h with h | h
    · exact ia h1.1.1.1 h2.1 h
    · exact ib h1.1.1.2 h2.2 h
theorem okT_op {i : Nat} {t : OT} {R hs : List Nat} (h : okT ops (.op i t) R hs = true) : i ∈ R ∧ (∀ m ∈ R, aft ops m i = false) ∧ okT ops t (R.erase i) [] = true := by
  have hl : lateB ops R i = false → ∀ m ∈ R, aft ops m i = false := fun h m hm => by
    simp only [lateB, List.any_eq_false] at h
    simpa using h m hm
  simp only [okT, Bool.or_eq_true, Bool.and_eq_true] at h
  rcases h with ⟨⟨⟨h1, h2⟩, _⟩, h3⟩ | ⟨⟨⟨⟨h1, h2⟩, _⟩, _⟩, h3⟩
  · exact ⟨by simpa using h1, hl (by simpa using h2), h3⟩
  · exact ⟨by simpa using h1, hl (by simpa using h2), h3⟩

theorem SimT.advance (hA : Apart ops) {K : St → Prop} {KP : AV → St → Prop} {i : Nat} (t : OT) : ∀ {rest pend ap : List Nat} {env : List (Nat × Val)} {hs : List Nat}, SimT P T ρ ops E0 w0 C0 σ0 listed pend rest ap n env σ ds a w C →
    okT ops t rest hs = true → arunT P T ρ ops E0 t ap ⟨n, env, σ, ds⟩ K KP → (i ∈ pend ∨ i ∈ rest) → (∀ m, m ∈ pend ∨ m ∈ rest → aft ops m i = false) → hs = [] →
    ∃ t' pend' rest' ap' env' hs', SimT P T ρ ops E0 w0 C0 σ0 listed pend' rest' ap' n env' σ ds a w C ∧ okT ops t' rest' hs' = true ∧ arunT P T ρ ops E0 t' ap' ⟨n, env', σ, ds⟩ K KP ∧ pend'.length + rest'.length = pend.length + rest.length ∧
      (∀ m, m ∈ pend' ∨ m ∈ rest' → aft ops m i = false) ∧ ((i ∈ pend' ∧ hs' = []) ∨ ∃ r o, t' = .op i r ∧ i ∈ rest' ∧ ops[i]? = some o ∧ loud o = true) := by
  induction t with
  | nil =>
    intro rest pend ap env hs H hok hk hi hb e
    subst e
    have : rest = [] := by simpa [okT] using hok
    subst this
    exact ⟨.nil, pend, [], ap, env, [], H, hok, hk, rfl, hb, .inl ⟨by simpa using hi, rfl⟩⟩
  | alt x y _ _ =>
    intro rest pend ap env hs H hok hk hi hb e
    subst e
    by_cases hip : i ∈ pend
    · exact ⟨.alt x y, pend, rest, ap, env, [], H, hok, hk, rfl, hb, .inl ⟨hip, rfl⟩⟩
    have hir : i ∈ rest := hi.resolve_left hip
    have hl : okT.loudT ops (.alt x y) = true := by
      have := hok
      simp only [okT, Bool.and_eq_true] at this
      simp only [okT.loudT, this.1.2, this.2, Bool.and_self]
    have hf : i ∈ firsts (.alt x y) := by
      rcases okT_loud hok hl i hir with h | h | h
      · simp only [lateB, List.any_eq_true] at h
        obtain ⟨m, hm, h⟩ := h
        rw [hb m (.inr hm)] at h; cases h
      · simp at h
      · exact h
    obtain ⟨t', hs', h1, h2⟩ := branch hok hk hf
    have hlt := H.lt i (.inr hir)
    have ho : ops[i]? = some ops[i] := Array.getElem?_eq_getElem hlt
    refine ⟨.op i t', pend, rest, ap, env, hs', H, h1, h2, rfl, hb, .inr ⟨t', _, rfl, hir, ho, ?_⟩⟩
    have : ∀ (t : OT), okT.loudT ops t = true → i ∈ firsts t → loudAt ops i = true := fun t => by
      induction t with
      | nil => intro _ h; simp [firsts] at h
      | op j t _ => intro h1 h2; simp [firsts] at h2; subst h2; exact h1
      | alt p q ip iq =>
        intro h1 h2
        simp only [okT.loudT, Bool.and_eq_true] at h1
        rcases List.mem_append.1 h2 with h | h
        · exact ip h1.1 h
        · exact iq h1.2 h
    have := this _ hl hf
    simpa [loudAt, ho] using this
  | op h t ih =>
    intro rest pend ap env hs H hok hk hi hb e
    subst e
    by_cases hip : i ∈ pend
    · exact ⟨.op h t, pend, rest, ap, env, [], H, hok, hk, rfl, hb, .inl ⟨hip, rfl⟩⟩
    have hir : i ∈ rest := hi.resolve_left hip
    obtain ⟨hm, hfree, hok'⟩ := okT_op hok
    have hk0 := hk
    simp only [arunT] at hk
    split at hk
    · rename_i _ _ o n' env' σ' ds' ho heq
      cases heq
      cases hl : loud o with
      | true =>
        have hf : i ∈ firsts (.op h t) := by
          rcases okT_loud hok (by simpa [okT.loudT, loudAt, ho] using hl) i hir with h | h | h
          · simp only [lateB, List.any_eq_true] at h
            obtain ⟨m, hm, h⟩ := h
            rw [hb m (.inr hm)] at h; cases h
          · simp at h
          · exact h
        simp [firsts] at hf
        subst hf
        exact ⟨.op i t, pend, rest, ap, env, [], H, hok, hk0, rfl, hb, .inr ⟨t, o, rfl, hir, ho, hl⟩⟩
      | false =>
        obtain ⟨env1, he1, hc⟩ := stepD_cases hk
        have hpm := List.perm_cons_erase hm
        have H0 := H.perm hpm
        have H1 := H0.told he1
        have r1 : ∀ m ∈ h :: rest.erase h, aft ops m h = false := fun m hm' => hfree m (hpm.mem_iff.2 hm')
        have hb' : ∀ m, m ∈ h :: pend ∨ m ∈ rest.erase h → aft ops m i = false := fun m hm' => by
          rcases hm' with h1 | h1
          · rcases List.mem_cons.1 h1 with rfl | h1
            · exact hb _ (.inr hm)
            · exact hb _ (.inl h1)
          · exact hb _ (.inr (List.mem_of_mem_erase h1))
        have hi' : i ∈ h :: pend ∨ i ∈ rest.erase h := by
          by_cases e : i = h
          · subst e; exact .inl (by simp)
          · exact .inr ((List.mem_erase_of_ne e).2 hir)
        have hlen : (rest.erase h).length + 1 = rest.length := by
          have := hpm.length_eq
          simpa using this.symm
        rcases hc with ⟨hw, hgo⟩ | ⟨hw, hput⟩
        · unfold goD at hgo
          rw [hl] at hgo
          simp only [cond_false] at hgo
          cases hqk : qok env1 o with
          | false => rw [hqk] at hgo; exact hgo.elim
          | true =>
          rw [hqk] at hgo
          simp only [cond_true] at hgo
          obtain ⟨v, h1, h2⟩ := quiet_det hl hqk hgo
          obtain ⟨h3, h4⟩ := put_spec h1
          obtain ⟨t', p', r', a', e', s', q1, qo, q2, q3, q4⟩ := ih (H1.pushGo hA r1 ho hw hl hqk h3 h2) hok' h4 hi' hb' rfl
          exact ⟨t', p', r', a', e', s', q1, qo, q2, by rw [q3]; simp; omega, q4⟩
        · obtain ⟨h3, h4⟩ := put_spec hput
          obtain ⟨t', p', r', a', e', s', q1, qo, q2, q3, q4⟩ := ih (H1.pushSkip hA r1 ho hw hl h3 (H1.noread hA ho (.inl hl)) (noselfT hA r1 H1 ho hl)) hok' h4 hi' hb' rfl
          exact ⟨t', p', r', a', e', s', q1, qo, q2, by rw [q3]; simp; omega, q4⟩
    · exact hk.elim
theorem nilT {K : St → Prop} {KP : AV → St → Prop} {S : St} {t : OT} : ∀ {hs : List Nat}, okT ops t [] hs = true → arunT P T ρ ops E0 t ap S K KP → K S := by
  induction t with
  | nil => intro hs _ h; exact h
  | op i t _ => intro hs h _; have := (okT_op h).1; simp at this
  | alt x y ix _ => intro hs h hk; simp only [okT, Bool.and_eq_true] at h; exact ix h.1.1.1 hk.1
include HT in
theorem simT_ok (hA : Apart ops) (hB : ∀ j oj, ops[j]? = some oj → ∀ e ∈ oj.after, Region.binds .any e = true → e.on < j) {K : St → Prop} {KP : AV → St → Prop} {Q : Exit → Act → World → Prop}
    (hn : ∀ S' w' C' a', K S' → Inv w' C' S'.σ → EnvOk w' C' a' S' → Ext w0 C0 σ0 w' C' S'.σ → Q .normal a' w')
    (hp : ∀ v x S' w' C' a, KP x S' → Inv w' C' S'.σ → EnvOk w' C' a S' → Ext w0 C0 σ0 w' C' S'.σ → RepA w' C' v x → Q (.panic [{ v := v, recovered := false }]) a w') :
    ∀ (fuel : Nat) {t : OT} {listed : Array Bool} {pend rest ap : List Nat} {env : List (Nat × Val)} {σ : List AObj} {a : Act} {w : World} {C : Cz}, SimT P T ρ ops E0 w0 C0 σ0 listed pend rest ap n env σ ds a w C →
      fuel = pend.length + rest.length → okT ops t rest [] = true → arunT P T ρ ops E0 t ap ⟨n, env, σ, ds⟩ K KP → wpAny P .any ops Q fuel listed a w
  | 0, t, listed, pend, rest, ap, env, σ, a, w, C, H, hf, hok, hk => by
    have e1 : pend = [] := List.eq_nil_of_length_eq_zero (by omega)
    have e2 : rest = [] := List.eq_nil_of_length_eq_zero (by omega)
    subst e1; subst e2
    have hkk : K ⟨n, env, σ, ds⟩ := nilT hok hk
    refine ⟨?_, hn _ w C a hkk H.hI H.hE H.hX⟩
    cases hr : Region.ready .any ops listed with
    | nil => rfl
    | cons j _ =>
      have hj : j ∈ Region.ready .any ops listed := by rw [hr]; simp
      have := (H.lst j (Sim.ready_lt hj)).1 (mem_ready.1 hj).1
      simp at this
  | fuel + 1, t, listed, pend, rest, ap, env, σ, a, w, C, H, hf, hok, hk => by
    refine ⟨fun hr => ?_, fun i hi => ?_⟩
    · exfalso
      obtain ⟨j, hj⟩ : ∃ j, j ∈ pend ∨ j ∈ rest := by
        cases pend with
        | cons j _ => exact ⟨j, .inl (by simp)⟩
        | nil => cases rest with
          | cons j _ => exact ⟨j, .inr (by simp)⟩
          | nil => simp at hf
      exact H.some_ready hB j hj hr
    · have hin := (H.lst i (Sim.ready_lt hi)).1 (mem_ready.1 hi).1
      obtain ⟨t, pend, rest, ap, env, hs, H, hok, hk, hl, hb, hc⟩ := H.advance hA t hok hk hin (H.ready_free hi) rfl
      rw [← hl] at hf
      rcases hc with ⟨hip, rfl⟩ | ⟨r, o, rfl, hir, ho, hlo⟩
      · obtain ⟨o, ho⟩ : ∃ o, ops[i]? = some o := ⟨_, Array.getElem?_eq_getElem (Sim.ready_lt hi)⟩
        refine H.stepPend HT hA hip ho hb (fun a' w' C' H' => simT_ok hA hB hn hp fuel H' ?_ hok hk)
        rw [List.length_erase_of_mem hip]
        have := List.length_pos_of_mem hip
        omega
      · obtain ⟨hm0, hfree, hok'⟩ := okT_op hok
        have hpm := List.perm_cons_erase hm0
        have H := H.perm hpm
        have r1 : ∀ m ∈ i :: rest.erase i, aft ops m i = false := fun m hm' => hfree m (hpm.mem_iff.2 hm')
        have hlen : (rest.erase i).length + 1 = rest.length := by have := hpm.length_eq; simpa using this.symm
        have hb : ∀ m, m ∈ pend ∨ m ∈ i :: rest.erase i → aft ops m i = false := fun m hm' => hm'.elim (fun h => hb m (.inl h)) (fun h => r1 m h)
        simp only [arunT] at hk
        split at hk
        · rename_i _ _ o' n' env' σ' ds' ho' heq
          cases heq
          rw [ho] at ho'; cases ho'
          obtain ⟨env1, he1, hc⟩ := stepD_cases hk
          have H1 := H.told he1
          have hbp : ∀ j ∈ pend, aft ops j i = false := fun j hj => hb j (.inl hj)
          have hr := H1.reads hA ho hb
          have hnr := H1.noread hA ho (.inr hbp)
          have hnd := List.nodup_append.1 H1.nd
          have hip : i ∉ pend := fun h => hnd.2.2 i h i (by simp) rfl
          have pkeep : ∀ (v : Val) (j : Nat), j ∈ pend → ∀ oj, ops[j]? = some oj → (∀ t ∈ reads ops oj, get env1 t = get (putE env1 o.dst v) t) ∧ (∀ d, oj.dst = some d → get (putE env1 o.dst v) d = get env1 d) := fun v j hj oj hoj =>
            ⟨fun t ht => by
              rw [putE_get]
              split
              · rename_i e; exact absurd ht (hnr j hj oj hoj t e)
              · rfl, fun d hd => by
              rw [putE_get]
              split
              · rename_i e
                rcases (hA i j o oj d ho hoj e).1 with e' | e'
                · subst e'; exact absurd hj hip
                · exact absurd hd e'
              · rfl⟩
          unfold wpOp
          simp only [ho]
          rcases hc with ⟨hw, hgo⟩ | ⟨hw, hput⟩
          · have hw' : Region.wanted o (yielded ops a.tmps) = true := wanted_of H1.hE ((wantA_same hr).trans hw)
            rw [if_pos hw']
            left
            unfold goD at hgo
            rw [hlo] at hgo
            simp only [cond_true] at hgo
            rw [← aop_congr (ev_same fun t ht => hr t (by simp [reads, ht]))] at hgo
            refine aop_ok HT ρ (S := ⟨n, mask ops pend env1, σ, ds⟩) H1.hI H1.hE hgo (fun u w' C' x σ' hx h2 h3 h4 => ?_) (fun d x hx _ => hx.elim) (fun u x w' C' σ' hx h2 h3 h4 => ?_)
            · obtain ⟨hdl, hrc⟩ := put_spec hx
              obtain ⟨k1, k2⟩ := recheck_spec hrc
              refine simT_ok hA hB hn hp fuel (H1.stepLoud hA r1 ho hbp h2 (EnvOk.putE (σ := σ') ⟨(H1.hE.mono h3.le).size, (H1.hE.mono h3.le).env, (H1.hE.mono h3.le).dlen, (H1.hE.mono h3.le).ds⟩ hdl h4) h3 (ap' := unreq ops i ap) (fun j hj oj hoj => ?_)) (by omega) hok' k1
              obtain ⟨s1, s2⟩ := pkeep x j hj oj hoj
              obtain ⟨q1, q2⟩ := H1.pok j hj oj hoj
              obtain ⟨v, p1, p2⟩ := q1.same s1 s2
              refine ⟨⟨v, p1, ?_⟩, fun hwj => unreq_mem (q2 (by rw [wantA_same s1]; exact hwj)) (gone_no hB H1.cl2 hb hj)⟩
              rcases p2 with p2 | ⟨p2, p3, p4⟩
              · exact .inl p2
              · exact .inr ⟨p2, p3, quiet_σ p3 p4 (k2 j (unreq_mem (q2 (by rw [wantA_same s1]; exact p2)) (gone_no hB H1.cl2 hb hj)) oj hoj v p1)⟩
            · refine hp u x _ w' C' a hx h2 (EnvOk.weak (E := mask ops pend env1) ⟨(H1.hE.mono h3.le).size, (H1.hE.mono h3.le).env, (H1.hE.mono h3.le).dlen, (H1.hE.mono h3.le).ds⟩ fun t => ?_) (H1.hX.trans h3) h4
              rcases H1.e0 t with e | ⟨e1, e2⟩
              · exact .inl e
              · right
                rw [e2]
                rcases mask_get (ops := ops) (env := env1) (t := t) (l := pend) with ⟨⟨j, h5, h6⟩, _⟩ | ⟨_, h5⟩
                · obtain ⟨oj, hoj, hd⟩ := dstOf_op h6
                  exact absurd hd (e1 j oj hoj)
                · exact h5.symm
          · have hw' : Region.wanted o (yielded ops a.tmps) = false := wanted_of H1.hE ((wantA_same hr).trans hw)
            rw [if_neg (by rw [hw']; decide)]
            obtain ⟨hdl, hrc⟩ := put_spec hput
            refine simT_ok hA hB hn hp fuel (H1.stepLoud hA r1 ho hbp H1.hI (H1.hE.putE hdl rep_undef) (.refl w C σ) (fun j hj oj hoj => ?_)) (by omega) hok' hrc
            obtain ⟨s1, s2⟩ := pkeep (.tup []) j hj oj hoj
            obtain ⟨q1, q2⟩ := H1.pok j hj oj hoj
            exact ⟨q1.same s1 s2, fun hwj => q2 (by rw [wantA_same s1]; exact hwj)⟩
        · exact hk.elim

def statT (ops : Array Oper) (ord : List Nat) (t : OT) : Bool := permB ops.size ord && okT ops t ord [] && apartB ops ops.size ops.size
include HT in
/-- A drawn region: by runs in orders, which the checks allow. -/
theorem AW.drawT (hm : P.follows .mixedOrders = true) {id : Nat} (ord : List Nat) (t : OT) (hs : statT ops ord t = true) {K : AEx → St → Prop} (h : arunT P T ρ ops (mask ops ord env) t [] ⟨n, env, σ, ds⟩ (K .normal) (fun a => K (.pan a))) :
    AW P T ρ (.region id ops true) ⟨n, env, σ, ds⟩ K :=
  ⟨fun w C a hI hE => by
    refine wp_region_any hm ?_
    simp only [statT, Bool.and_eq_true, permB] at hs
    obtain ⟨⟨⟨⟨p1, p2⟩, p3⟩, s2⟩, s4⟩ := hs
    have hsp := apartB_spec s4
    have hlt : ∀ {j : Nat} {o : Oper}, ops[j]? = some o → j < ops.size := fun h => (Array.getElem?_eq_some_iff.1 h).1
    have hA : Apart ops := fun m j om oj d h1 h2 h3 => apart1_spec (hsp j (hlt h2) oj h2).2 m (hlt h1) om d h1 h3
    have hB : ∀ j oj, ops[j]? = some oj → ∀ e ∈ oj.after, Region.binds .any e = true → e.on < j := fun j oj h1 => (hsp j (hlt h1) oj h1).1
    have hw : ({ w with drawn := w.drawn + 1 } : World).heap = w.heap := rfl
    have hX : Ext w C σ { w with drawn := w.drawn + 1 } C σ := Ext.heap hw rfl rfl rfl
    have hnd := nodB_nodup p3
    have hmem : ∀ j, j < ops.size ↔ j ∈ ord := fun j => ⟨coverB_mem p1 j, ltB_mem p2 j⟩
    have hlen : ops.size = ([] : List Nat).length + ord.length := by
      have : (List.range ops.size).Perm ord := (List.perm_ext_iff_of_nodup List.nodup_range hnd).2 fun j => by rw [List.mem_range]; exact hmem j
      have := this.length_eq
      simpa using this
    refine simT_ok HT hA hB (E0 := mask ops ord env) (ρ := ρ) (n := n) (ds := ds) (pend := []) (rest := ord) (ap := []) (env := env) (σ := σ) (C := C) (w0 := w) (C0 := C) (σ0 := σ) (K := K .normal) (KP := fun a => K (.pan a)) (fun S' w' C' a' h1 h2 h3 h4 => ⟨.normal, S', C', h1, trivial, h2, h3, h4⟩)
      (fun v x S' w' C' a h1 h2 h3 h4 h5 => ⟨.pan x, S', C', h1, ⟨v, rfl, h5⟩, h2, h3, h4⟩) ops.size ?_ hlen s2 h
    refine ⟨by simp, fun j hj => ?_, fun j hj => (hmem j).2 (by simpa using hj), by simpa using hnd, Inv.heap hw hI, hE.mono hX.le, hX, fun j hj => by simp at hj, fun j hj => by simp at hj, fun j m hj hjr => absurd ((hmem j).1 hj) hjr, fun t => ?_, fun k m _ _ _ _ hm => by simp at hm⟩
    · have h1 := (hmem j).1 hj
      simp [hj, h1]
    · rcases mask_get (ops := ops) (env := env) (t := t) (l := ord) with ⟨_, h2⟩ | ⟨h1, h2⟩
      · exact .inl h2
      · exact .inr ⟨fun j o ho hd => h1 j ((hmem j).1 (hlt ho)) (by rw [dstOf_some ho]; exact hd), h2⟩⟩

end
end Go.Proofs.YtmaokphbfjpodaaGreatDoor.E

/- The engine, part 29: a loop whose rounds are told one by one. No conditions. -/
set_option linter.unusedVariables false
set_option linter.unusedSimpArgs false
namespace Go.Proofs.YtmaokphbfjpodaaGreatDoor.E
open Go

variable {P : Program} {T : Tab} (HT : TabOk P T)
/-- At most n rounds. -/
def RD (P : Program) (T : Tab) (ρ : Nat) (c : Code) (K : AEx → St → Prop) : Nat → St → Prop
  | 0, _ => False
  | n + 1, S => AW P T ρ c S (athen (fun S' => RD P T ρ c K n S') K)
theorem AW.rounds {ρ : Nat} {c : Code} {S : St} {K : AEx → St → Prop} (n : Nat) (h : RD P T ρ c K n S) : AW P T ρ (.loop c) S K :=
  ⟨fun w C a hI hE => by
    intro b k cs
    have key : ∀ n (S1 : St), RD P T ρ c K n S1 → ∀ (a : Act) (w1 : World) (C1 : Cz), Inv w1 C1 S1.σ → EnvOk w1 C1 a S1 → Ext w C S.σ w1 C1 S1.σ →
        ∃ e a' w', Post w C S.σ K e a' w' ∧ Arrives P (lone (b.at a (.code c :: .inLoop c :: k)) cs w1) b k cs e a' w' := by
      intro n
      induction n with
      | zero => intro S1 h; exact h.elim
      | succ n ih =>
        intro S1 h a w1 C1 hI1 hE1 hX1
        obtain ⟨e, a₁, w₁, ⟨z, S', C', hk, hx, hi', he', hx'⟩, harr⟩ := h.out w1 C1 a hI1 hE1 b (.inLoop c :: k) cs
        cases e <;> cases z <;> first | (exact hx.elim) | skip
        · obtain ⟨e, a₂, w₂, hq₂, harr₂⟩ := ih S' hk a₁ w₁ C' hi' he' (hX1.trans hx')
          exact ⟨e, a₂, w₂, hq₂, .of_steps (Steps.trans harr (.one step_inLoop)) harr₂⟩
        · exact ⟨_, a₁, w₁, ⟨_, S', C', hk, hx, hi', he', hX1.trans hx'⟩, .pass (x := .inLoop c) rfl (fun _ _ => .inl (by simp)) harr⟩
        · exact ⟨_, a₁, w₁, ⟨_, S', C', hk, hx, hi', he', hX1.trans hx'⟩, .pass (x := .inLoop c) rfl (fun _ _ => .inl (by simp)) harr⟩
        · exact ⟨_, a₁, w₁, ⟨_, S', C', hk, hx, hi', he', hX1.trans hx'⟩, .pass (x := .inLoop c) rfl (fun _ _ => .inl (by simp)) harr⟩
    obtain ⟨e, a', w', hq, harr⟩ := key n S h a w C hI hE (.refl w C _)
    exact ⟨e, a', w', hq, .of_steps (.one step_loop) harr⟩⟩
/-- S tells as many objects as I and at least I's slots. -/
structure FitsX (S I : St) : Prop where
  fits : Fits S I
  len : Nat.ble S.σ.length I.σ.length = true
/-- All ends of x come to S0: y is walked once. -/
theorem AW.cut {ρ : Nat} {x y : Code} {S : St} {K : AEx → St → Prop} (S0 : St) (h1 : AW P T ρ x S (athen (fun S' => FitsX S' S0) K)) (h2 : AW P T ρ y S0 K) : AW P T ρ (.seq x y) S K :=
  AW.seq (h1.mono fun e S' h => by
    cases e
    · exact AW.fits h.fits h.len h2
    · exact h
    · exact h
    · exact h)
end Go.Proofs.YtmaokphbfjpodaaGreatDoor.E

/- The engine, part 32: a slice in a slot becomes data. No conditions. -/
set_option linter.unusedVariables false
set_option linter.unusedSimpArgs false
set_option linter.unusedSectionVars false
namespace Go.Proofs.YtmaokphbfjpodaaGreatDoor.E
open Go

section
variable {P : Program} {T : Tab}

end
end Go.Proofs.YtmaokphbfjpodaaGreatDoor.E

/- The engine, part 30: data under other tags: what is told of a call holds for arguments of any region. No conditions. -/
set_option linter.unusedVariables false
set_option linter.unusedSimpArgs false
set_option linter.unusedSectionVars false
namespace Go.Proofs.YtmaokphbfjpodaaGreatDoor.E
open Go

/-- The same data; the second under the tag c throughout. -/
inductive Rt (c : Nat) : DV → DV → Prop where
  | int (k : IntKind) (n : Int) : Rt c (.int k n) (.int k n)
  | bool (b : Bool) : Rt c (.bool b) (.bool b)
  | str (s : ByteArray) : Rt c (.str s) (.str s)
  | nils : Rt c .nils .nils
  | nilp : Rt c .nilp .nilp
  | sl (r sz : Nat) (rows rows' : List (List DV)) (hl : rows.length = rows'.length) (hr : ∀ (j : Nat) row row', rows[j]? = some row → rows'[j]? = some row' → row.length = row'.length)
      (h : ∀ (j i : Nat) row row' x y, rows[j]? = some row → rows'[j]? = some row' → row[i]? = some x → row'[i]? = some y → Rt c x y) : Rt c (.sl r sz rows) (.sl c sz rows')
  | rp (r : Nat) (cells cells' : List DV) (hl : cells.length = cells'.length) (h : ∀ (i : Nat) x y, cells[i]? = some x → cells'[i]? = some y → Rt c x y) : Rt c (.rp r cells) (.rp c cells')

theorem get_of_len {α β : Type} {l : List α} {m : List β} (h : l.length = m.length) {i : Nat} {y : β} (hy : m[i]? = some y) : ∃ x, l[i]? = some x :=
  ⟨_, List.getElem?_eq_getElem (by have := (List.getElem?_eq_some_iff.1 hy).1; omega)⟩

theorem RepD.rt {w w' : World} {rg rg' : Nat → Option Nat} {c : Nat} (hc : c ≠ 1 ∧ c ≠ 4) (H : ∀ b r, TagOk rg b r → TagOk rg' b c ∧ w'.heap[b]? = w.heap[b]?) {v : Value} {x : DV} (h : RepD w rg v x) : ∀ {y : DV}, Rt c x y → RepD w' rg' v y := by
  induction h with
  | int k n => intro y g; cases g; exact .int k n
  | bool b => intro y g; cases g; exact .bool b
  | str s => intro y g; cases g; exact .str s
  | sl0 A r sz n =>
    intro y g
    cases g with
    | sl _ _ _ rows' hl hr h =>
      obtain rfl : rows' = [] := List.length_eq_zero_iff.1 (by simpa using hl.symm)
      exact .sl0 A c sz n
  | sl r sz b o n cp rows cs e fz vs hr hh hn hcp hsz hcell hrep ih =>
    intro y g
    cases g with
    | sl _ _ _ rows' hl hrl h =>
      obtain ⟨t1, t2⟩ := H b r hr.1
      refine .sl c sz b o n cp rows' cs e fz vs ⟨t1, fun hx => by rcases hx with hx | hx <;> omega⟩ (t2.trans hh) (by omega) hcp (fun row' hrow' => ?_) hcell (fun j i row' y hj hi => ?_)
      · obtain ⟨j, hj1, hj2⟩ := List.getElem_of_mem hrow'
        have hj : rows'[j]? = some row' := by rw [List.getElem?_eq_getElem hj1, hj2]
        obtain ⟨row, hrow⟩ := get_of_len hl hj
        rw [← hrl j row row' hrow hj]
        exact hsz row (List.mem_of_getElem? hrow)
      · obtain ⟨row, hrow⟩ := get_of_len hl hj
        obtain ⟨x, hx⟩ := get_of_len (hrl j row row' hrow hj) hi
        exact ih j i row x hrow hx (h j i row row' x y hrow hj hx hi)
  | nils => intro y g; cases g; exact .nils
  | rp r b o cells cs e fz vs hr hh hcell hrep ih =>
    intro y g
    cases g with
    | rp _ _ cells' hl h =>
      obtain ⟨t1, t2⟩ := H b r hr
      refine .rp c b o cells' cs e fz vs t1 (t2.trans hh) (fun i hi => hcell i (by omega)) (fun i y hi => ?_)
      obtain ⟨x, hx⟩ := get_of_len hl hi
      exact ih i x hx (h i x y hx hi)
  | nilp => intro y g; cases g; exact .nilp
  | nilf => intro y g; cases g
  | nilm => intro y g; cases g
  | nili => intro y g; cases g
  | ifc t v x h ih => intro y g; cases g
  | ifa t arr cells vs hs hcell hrep ih => intro y g; cases g
  | fnd f fs cs first cap vf vc h1 h2 g1 g2 r1 r2 i1 i2 => intro y g; cases g
  | wsl0 A k n => intro y g; cases g
  | wsl k b n cp rows cs e told vs hr hh hn hc hsz hcell hsp hrep ih => intro y g; cases g
  | wrp k b j cells cs e told vs hr hh hl hcell hsp hrep ih => intro y g; cases g

inductive RtV (c : Nat) : Val → Val → Prop where
  | c (x y : DV) (h : Rt c x y) : RtV c (.c (.d x)) (.c (.d y))
  | agg (xs ys : List DV) (hl : xs.length = ys.length) (h : ∀ (i : Nat) x y, xs[i]? = some x → ys[i]? = some y → Rt c x y) : RtV c (.agg (xs.map .d)) (.agg (ys.map .d))
  | tup (xs ys : List Val) (hl : xs.length = ys.length) (h : ∀ (i : Nat) x y, xs[i]? = some x → ys[i]? = some y → RtV c x y) : RtV c (.tup xs) (.tup ys)

theorem RtV.rep {w w' : World} {C C' : Cz} {c : Nat} (hc : c ≠ 1 ∧ c ≠ 4) (H : ∀ b r, TagOk C.rg b r → TagOk C'.rg b c ∧ w'.heap[b]? = w.heap[b]?) {x y : Val} (h : RtV c x y) : ∀ {v : Value}, RepV w C v x → RepV w' C' v y := by
  induction h with
  | c x y h => intro v g; exact .c _ _ (.d _ _ ((repA_d (c_of g)).rt hc H h))
  | agg xs ys hl h =>
    intro v g
    cases g with
    | agg arr _ g =>
      refine .agg arr _ ⟨by have := g.1; simp at this ⊢; omega, fun i u a hu ha => ?_⟩
      rw [List.getElem?_map] at ha
      cases hy : ys[i]? with
      | none => rw [hy] at ha; cases ha
      | some y =>
        rw [hy] at ha; cases ha
        obtain ⟨x, hx⟩ := get_of_len hl hy
        exact .d _ _ ((repA_d (g.2 i u (.d x) hu (by rw [List.getElem?_map, hx]; rfl))).rt hc H (h i x y hx hy))
  | tup xs ys hl h ih =>
    intro v g
    cases g with
    | tup arr _ hs g =>
      refine .tup arr ys (by omega) fun i u y hu hy => ?_
      obtain ⟨x, hx⟩ := get_of_len hl hy
      exact ih i x y hx hy (g i u x hu hx)

/-- Arguments under the tag c. -/
inductive RtVs (c : Nat) : List Val → List Val → Prop where
  | nil : RtVs c [] []
  | cons {x y : Val} {l m : List Val} (h : RtV c x y) (t : RtVs c l m) : RtVs c (x :: l) (y :: m)
theorem RtVs.rep {w w' : World} {C C' : Cz} {c : Nat} (hc : c ≠ 1 ∧ c ≠ 4) (H : ∀ b r, TagOk C.rg b r → TagOk C'.rg b c ∧ w'.heap[b]? = w.heap[b]?) {xs ys : List Val} (h : RtVs c xs ys) : ∀ {vs : List Value}, RepVs w C vs xs → RepVs w' C' vs ys := by
  induction h with
  | nil => intro vs g; exact ⟨g.1, fun i v x hv hx => by simp at hx⟩
  | @cons x y l m h t ih =>
    intro vs g
    obtain ⟨g1, g2⟩ := g
    cases vs with
    | nil => simp at g1
    | cons v vs =>
      have := ih (vs := vs) ⟨by simpa using g1, fun i v x hv hx => g2 (i + 1) v x (by simpa using hv) (by simpa using hx)⟩
      refine ⟨by simpa using this.1, fun i u z hu hz => ?_⟩
      cases i with
      | zero => simp at hu hz; subst hu; subst hz; exact h.rep hc H (g2 0 _ _ rfl rfl)
      | succ i => exact this.2 i u z (by simpa using hu) (by simpa using hz)

/-- What is told of a call of arguments and results under the tag 0 holds for arguments of any region; of the results' region nothing is told (9). -/
theorem ACall.any {P : Program} {f : FuncId} {args args0 : List Val} {res0 res : Val} (c : ACall P f args0 [] (fun o σ => o = .ret res0 ∧ σ = [])) (ha : RtVs 0 args args0) (hr : RtV 9 res0 res) :
    ACall P f args [] (fun o σ => o = .ret res ∧ σ = []) where
  out := fun w C vs hI hv => by
    have hθ : C.θ = [] := List.eq_nil_of_length_eq_zero hI.len
    have hno : ∀ (D : Cz) b, ¬ Lives D [] b := fun D b ⟨i, o, e, h, _⟩ => by simp at h
    let C0 : Cz := ⟨[], fun b => (C.rg b).bind fun q => bif isW q then none else some 0⟩
    have h0 : ∀ b r, C0.rg b = some r → r = 0 ∧ ∃ q, C.rg b = some q ∧ isW q = false := fun b r h => by
      simp only [C0] at h
      cases hq : C.rg b with
      | none => rw [hq] at h; cases h
      | some q =>
        rw [hq] at h
        cases hw : isW q with
        | true => simp [hw] at h
        | false => simp [hw] at h; exact ⟨h.symm, q, rfl, hw⟩
    have h1 : ∀ b q, C.rg b = some q → isW q = false → C0.rg b = some 0 := fun b q h hw => by simp [C0, h, hw]
    have hI0 : Inv w C0 [] := ⟨rfl, fun i o e h => by simp at h, fun i o e b h => by simp at h, fun i j o p e f b h => by simp at h, fun b r h => by
      obtain ⟨_, q, hq, _⟩ := h0 b r h
      exact hI.rgs b q hq, hI.glb.mono fun b hb => ⟨h1 b 0 hb rfl, rfl⟩⟩
    have hv0 : RepVs w C0 vs.toList args0 := ha.rep (w := w) (w' := w) (C := C) (C' := C0) ⟨by decide, by decide⟩ (fun b r h => by
      obtain ⟨q, h2, h3, _⟩ := h
      exact ⟨⟨0, h1 b q h2 h3, rfl, .inl rfl⟩, rfl⟩) hv
    refine (c.out w C0 vs hI0 hv0).mono ?_
    rintro e w' ⟨o, σ', C', ⟨rfl, rfl⟩, hI', hE, hO⟩
    have hold : ∀ b, b < w.heap.size → w'.heap[b]? = w.heap[b]? := fun b hb => by
      cases hc : C0.rg b with
      | none => exact hE.frame b hb (hno _ b) (fun r hr => by rw [hc] at hr; cases hr)
      | some r =>
        obtain ⟨rfl, _⟩ := h0 b r hc
        exact (hE.le.rg b 0 hc).2.eq rfl
    let C2 : Cz := ⟨[], fun b => match C.rg b with | some r => some r | none => C'.rg b⟩
    have h2 : ∀ b r, C.rg b = some r → C2.rg b = some r := fun b r h => by simp [C2, h]
    have h3 : ∀ b, C.rg b = none → C2.rg b = C'.rg b := fun b h => by simp [C2, h]
    refine ⟨_, [], C2, ⟨rfl, rfl⟩, ⟨rfl, fun i o e h => by simp at h, fun i o e b h => by simp at h, fun i j o p e f b h => by simp at h, fun b r h => ?_, hI.glb.mono fun b hb => ⟨h2 b 0 hb, hold b (hI.rgs b 0 hb)⟩⟩,
      ⟨hE.os, hE.tape, hE.output, hE.size, ⟨fun b r h => ⟨h2 b r h, .inl (hold b (hI.rgs b r h))⟩, fun i e h => by rw [hθ] at h; simp at h⟩, fun b hb _ _ => hold b hb, fun b h => absurd h (hno _ b), fun b r h => ?_⟩, ?_⟩
    · cases hc : C.rg b with
      | some q => have := hI.rgs b q hc; have := hE.size; omega
      | none => rw [h3 b hc] at h; exact hI'.rgs b r h
    · cases hc : C.rg b with
      | some q => rw [h2 b q hc] at h; cases h; exact .inl rfl
      | none =>
        rw [h3 b hc] at h
        rcases hE.newrg b r h with h4 | h4 | h4
        · obtain ⟨_, q, hq, _⟩ := h0 b r h4
          rw [hc] at hq; cases hq
        · exact absurd h4 (hno _ b)
        · exact .inr (.inr h4)
    · obtain ⟨v, rfl, hv⟩ := hO
      refine ⟨v, rfl, hr.rep ⟨by decide, by decide⟩ (fun b r h => ⟨?_, rfl⟩) hv⟩
      obtain ⟨q, h5, h6, _⟩ := h
      cases hc : C.rg b with
      | none => exact ⟨q, by rw [h3 b hc]; exact h5, h6, .inr rfl⟩
      | some r0 =>
        refine ⟨r0, h2 b r0 hc, ?_, .inr rfl⟩
        cases hw : isW r0 with
        | false => rfl
        | true =>
          rcases hE.newrg b q h5 with h4 | h4 | h4
          · obtain ⟨_, q', hq', hw'⟩ := h0 b q h4
            rw [hc] at hq'; cases hq'
            rw [hw] at hw'; cases hw'
          · exact absurd h4 (hno _ b)
          · have := hI.rgs b r0 hc; omega

/-- An argument: as it is, or its region forgotten. -/
inductive ArgT : Val → Val → Prop where
  | same (x : Val) : ArgT x x
  | rt {x y : Val} (h : RtV 9 x y) : ArgT x y
theorem ArgT.rep {x y : Val} (h : ArgT x y) {w : World} {C : Cz} {v : Value} (g : RepV w C v x) : RepV w C v y := by
  cases h with
  | same => exact g
  | rt h => exact h.rep ⟨by decide, by decide⟩ (fun b r ⟨q, h1, h2, _⟩ => ⟨⟨q, h1, h2, .inr rfl⟩, rfl⟩) g
inductive ArgsT : List Val → List Val → Prop where
  | nil : ArgsT [] []
  | cons {x y : Val} {l m : List Val} (h : ArgT x y) (t : ArgsT l m) : ArgsT (x :: l) (y :: m)
theorem ArgsT.rep {xs ys : List Val} (h : ArgsT xs ys) : ∀ {w : World} {C : Cz} {vs : List Value}, RepVs w C vs xs → RepVs w C vs ys := by
  induction h with
  | nil => intro w C vs g; exact g
  | @cons x y l m h t ih =>
    intro w C vs g
    obtain ⟨g1, g2⟩ := g
    cases vs with
    | nil => simp at g1
    | cons v vs =>
      have := ih (w := w) (C := C) (vs := vs) ⟨by simpa using g1, fun i v x hv hx => g2 (i + 1) v x (by simpa using hv) (by simpa using hx)⟩
      refine ⟨by simpa using this.1, fun i u z hu hz => ?_⟩
      cases i with
      | zero => simp at hu hz; subst hu; subst hz; exact h.rep (g2 0 _ _ rfl rfl)
      | succ i => exact this.2 i u z (by simpa using hu) (by simpa using hz)
end Go.Proofs.YtmaokphbfjpodaaGreatDoor.E

/- The engine, part 31: what a function has copied for itself is written over: data of other regions stand. No conditions. -/
set_option linter.unusedVariables false
set_option linter.unusedSimpArgs false
set_option linter.unusedSectionVars false
namespace Go.Proofs.YtmaokphbfjpodaaGreatDoor.E
open Go

theorem TagOk.tag {rg : Nat → Option Nat} {b r : Nat} (h : TagOk rg b r) (h9 : r ≠ 9) : rg b = some r ∧ isW r = false := by
  obtain ⟨q, h1, h2, h3 | h3⟩ := h
  · subst h3; exact ⟨h1, h2⟩
  · exact absurd h3 h9
/-- Data under one tag throughout stand where the blocks of that tag keep it. -/
theorem RepD.keepc {w : World} {rg rg' : Nat → Option Nat} {c : Nat} (hc : c ≠ 1 ∧ c ≠ 4 ∧ c ≠ 9) (H : ∀ b, rg b = some c → rg' b = some c) {v : Value} {x : DV} (h : RepD w rg v x) : ∀ {y : DV}, Rt c x y → x = y → RepD w rg' v y := by
  induction h with
  | int k n => intro y g e; cases g; exact .int k n
  | bool b => intro y g e; cases g; exact .bool b
  | str s => intro y g e; cases g; exact .str s
  | sl0 A r sz n => intro y g e; subst e; exact .sl0 A r sz n
  | sl r sz b o n cp rows cs e fz vs hr hh hn hcp hsz hcell hrep ih =>
    intro y g e'
    subst e'
    cases g with
    | sl _ _ _ _ hl hrl h =>
      obtain ⟨t1, t2⟩ := hr.1.tag hc.2.2
      exact .sl c sz b o n cp rows cs e fz vs ⟨⟨c, H b t1, t2, .inl rfl⟩, fun hx => by rcases hx with hx | hx <;> omega⟩ hh hn hcp hsz hcell (fun j i row x hj hi => ih j i row x hj hi (h j i row row x x hj hj hi hi) rfl)
  | nils => intro y g e; cases g; exact .nils
  | rp r b o cells cs e fz vs hr hh hcell hrep ih =>
    intro y g e'
    subst e'
    cases g with
    | rp _ _ _ hl h =>
      obtain ⟨t1, t2⟩ := hr.tag hc.2.2
      exact .rp c b o cells cs e fz vs ⟨c, H b t1, t2, .inl rfl⟩ hh hcell (fun i x hi => ih i x hi (h i x x hi hi) rfl)
  | nilp => intro y g e; cases g; exact .nilp
  | nilf => intro y g e; cases g
  | nilm => intro y g e; cases g
  | nili => intro y g e; cases g
  | ifc t v x h ih => intro y g e; cases g
  | ifa t arr cells vs hs hcell hrep ih => intro y g e; cases g
  | fnd f fs cs first cap vf vc h1 h2 g1 g2 r1 r2 i1 i2 => intro y g e; cases g
  | wsl0 A k n => intro y g e; cases g
  | wsl k b n cp rows cs e told vs hr hh hn hc hsz hcell hsp hrep ih => intro y g e; cases g
  | wrp k b j cells cs e told vs hr hh hl hcell hsp hrep ih => intro y g e; cases g

/-! ### Blocks of tags 1 and 4: hidden; written over -/
def hidR (rg : Nat → Option Nat) : Nat → Option Nat := fun b => match rg b with | some r => if r = 1 ∨ r = 4 then none else some r | none => none
def thwR (rg : Nat → Option Nat) : Nat → Option Nat := fun b => match rg b with | some r => some (if r = 1 then 7 else if r = 4 then 8 else r) | none => none
def Cz.hid (C : Cz) : Cz := ⟨C.θ, hidR C.rg⟩
def Cz.thw (C : Cz) : Cz := ⟨C.θ, thwR C.rg⟩
theorem hid_some {rg : Nat → Option Nat} {b r : Nat} (h : hidR rg b = some r) : rg b = some r ∧ r ≠ 1 ∧ r ≠ 4 := by
  unfold hidR at h
  split at h
  · rename_i q hq
    split at h
    · cases h
    · rename_i hn
      cases h
      exact ⟨hq, fun e => hn (.inl e), fun e => hn (.inr e)⟩
  · cases h
theorem some_hid {rg : Nat → Option Nat} {b r : Nat} (h : rg b = some r) (h1 : r ≠ 1) (h4 : r ≠ 4) : hidR rg b = some r := by
  unfold hidR
  rw [h]
  simp [h1, h4]
theorem thw_some {rg : Nat → Option Nat} {b r : Nat} (h : thwR rg b = some r) : ∃ q, rg b = some q ∧ ((q = r ∧ q ≠ 1 ∧ q ≠ 4) ∨ (q = 1 ∧ r = 7) ∨ (q = 4 ∧ r = 8)) := by
  unfold thwR at h
  split at h
  · rename_i q hq
    refine ⟨q, hq, ?_⟩
    by_cases h1 : q = 1
    · subst h1; simp at h; exact .inr (.inl ⟨rfl, h.symm⟩)
    · by_cases h4 : q = 4
      · subst h4; simp at h; exact .inr (.inr ⟨rfl, h.symm⟩)
      · simp [h1, h4] at h; exact .inl ⟨h, h1, h4⟩
  · cases h
theorem some_thw {rg : Nat → Option Nat} {b r : Nat} (h : rg b = some r) (h1 : r ≠ 1) (h4 : r ≠ 4) : thwR rg b = some r := by
  unfold thwR
  rw [h]
  simp [h1, h4]
theorem thw_none {rg : Nat → Option Nat} {b : Nat} (h : rg b = none) : thwR rg b = none := by unfold thwR; rw [h]

/-! ### Plain states: all data under the tag 0 -/
inductive PlA : AV → Prop where
  | d (x : DV) (h : Rt 0 x x) : PlA (.d x)
  | d2 (x : DV) (h : Rt 2 x x) : PlA (.d x)
  | ptr (o off : Nat) : PlA (.ptr o off)
inductive PlV : Val → Prop where
  | c (a : AV) (h : PlA a) : PlV (.c a)
  | agg (l : List AV) (h : ∀ a, a ∈ l → PlA a) : PlV (.agg l)
  | junk : PlV .junk
inductive PlO : AObj → Prop where
  | var (l : List AV) (h : ∀ a, a ∈ l → PlA a) : PlO (.var l)
  | gone : PlO .gone
structure PlS (S : St) : Prop where
  env : ∀ p, p ∈ S.env → PlV p.2
  σ : ∀ o, o ∈ S.σ → PlO o
  ds : S.ds = []
theorem get_mem : ∀ (env : List (Nat × Val)) (t : Nat), get env t = .junk ∨ ∃ v, (t, v) ∈ env ∧ get env t = v
  | [], t => .inl rfl
  | (s, v) :: r, t => by
    rw [get_cons]
    by_cases h : s = t
    · subst h; rw [if_pos rfl]; exact .inr ⟨v, by simp, rfl⟩
    · rw [if_neg h]
      rcases get_mem r t with h1 | ⟨u, h1, h2⟩
      · exact .inl h1
      · exact .inr ⟨u, by simp [h1], h2⟩
theorem PlA.rep {w : World} {C : Cz} {a : AV} (h : PlA a) {v : Value} (g : RepA w C v a) : RepA w C.hid v a := by
  cases h with
  | d x h => exact .d _ _ ((repA_d g).keepc (c := 0) ⟨by decide, by decide, by decide⟩ (fun b hb => some_hid hb (by decide) (by decide)) h rfl)
  | d2 x h => exact .d _ _ ((repA_d g).keepc (c := 2) ⟨by decide, by decide, by decide⟩ (fun b hb => some_hid hb (by decide) (by decide)) h rfl)
  | ptr o off =>
    cases g with
    | ptr _ _ b e he hr hb => exact .ptr o off b e he hr hb
theorem PlV.rep {w : World} {C : Cz} {x : Val} (h : PlV x) {v : Value} (g : RepV w C v x) : RepV w C.hid v x := by
  cases h with
  | c a h => exact .c _ _ (h.rep (c_of g))
  | agg l h =>
    cases g with
    | agg arr _ g => exact .agg arr l ⟨g.1, fun i u a hu ha => (h a (List.mem_of_getElem? ha)).rep (g.2 i u a hu ha)⟩
  | junk => exact .junk _
theorem PlS.ok {w : World} {C : Cz} {a : Act} {S : St} (h : PlS S) (hI : Inv w C S.σ) (hE : EnvOk w C a S) : Inv w C.hid S.σ ∧ EnvOk w C.hid a S := by
  refine ⟨⟨hI.len, fun i o e ho he => ?_, fun i o e b h1 h2 h3 h4 => ?_, hI.apart, fun b r hb => hI.rgs b r (hid_some hb).1, hI.glb.mono fun b hb => ⟨some_hid hb (by decide) (by decide), rfl⟩⟩, ⟨hE.size, fun t => ?_, hE.dlen, fun i d x h1 h2 => by rw [h.ds] at h2; simp at h2⟩⟩
  · have hp := h.σ o (List.mem_of_getElem? ho)
    have := hI.ok i o e ho he
    cases hp with
    | var l hl =>
      obtain ⟨g1, b, cs, ty, g2, g3, g4⟩ := this
      exact ⟨g1, b, cs, ty, g2, g3, ⟨g4.1, fun i u a hu ha => (hl a (List.mem_of_getElem? ha)).rep (g4.2 i u a hu ha)⟩⟩
    | gone => trivial
  · have := hI.unrg i o e b h1 h2 h3 h4
    refine ⟨?_, this.2⟩
    show hidR C.rg b = none
    unfold hidR
    rw [this.1]
  · rcases get_mem S.env t with h1 | ⟨v, h1, h2⟩
    · rw [h1]; exact .junk _
    · rw [h2]
      have := hE.env t
      rw [h2] at this
      exact (h.env _ h1).rep this

/-! ### From read only to written over -/
inductive Th : DV → DV → Prop where
  | keep0 (x : DV) (h : Rt 0 x x) : Th x x
  | keep2 (x : DV) (h : Rt 2 x x) : Th x x
  | w (k : Bool) (rows rows' : List (List DV)) (hl : rows.length = rows'.length) (hr : ∀ (j : Nat) row row', rows[j]? = some row → rows'[j]? = some row' → row.length = row'.length)
      (h : ∀ (j i : Nat) row row' x y, rows[j]? = some row → rows'[j]? = some row' → row[i]? = some x → row'[i]? = some y → Th x y) : Th (.sl (if k then 4 else 1) (wsz k) rows) (.wsl k rows')
theorem Th.rep {w : World} {rg : Nat → Option Nat} {x y : DV} (h : Th x y) : ∀ {v : Value}, RepD w rg v x → RepD w (thwR rg) v y := by
  induction h with
  | keep0 x h => intro v g; exact g.keepc (c := 0) ⟨by decide, by decide, by decide⟩ (fun b hb => some_thw hb (by decide) (by decide)) h rfl
  | keep2 x h => intro v g; exact g.keepc (c := 2) ⟨by decide, by decide, by decide⟩ (fun b hb => some_thw hb (by decide) (by decide)) h rfl
  | w k rows rows' hl hr h ih =>
    intro v g
    cases g with
    | sl0 A _ _ n =>
      obtain rfl : rows' = [] := List.length_eq_zero_iff.1 (by simpa using hl.symm)
      exact .wsl0 A k n
    | sl _ _ b o n cp _ cs e fz vs hrr hh hn hcp hsz hcell hrep =>
      have h9 : (if k then 4 else 1) ≠ 9 := by cases k <;> decide
      obtain ⟨t1, t2⟩ := hrr.1.tag h9
      obtain ⟨q1, q2, _⟩ := hrr.2 (by cases k <;> simp)
      subst q1; subst q2
      refine .wsl k b n cp rows' cs e (fun _ => true) vs ?_ hh (by omega) hcp (fun row' hrow' => ?_) (fun j i hj hi => by have := hcell j i hj hi; rwa [Nat.zero_add] at this) (fun j i v ht => by cases ht) (fun j i row' y _ hj hi => ?_)
      · unfold thwR
        rw [t1]
        cases k <;> rfl
      · obtain ⟨j, hj1, hj2⟩ := List.getElem_of_mem hrow'
        have hj : rows'[j]? = some row' := by rw [List.getElem?_eq_getElem hj1, hj2]
        obtain ⟨row, hrow⟩ := get_of_len hl hj
        rw [← hr j row row' hrow hj]
        exact hsz row (List.mem_of_getElem? hrow)
      · obtain ⟨row, hrow⟩ := get_of_len hl hj
        obtain ⟨x, hx⟩ := get_of_len (hr j row row' hrow hj) hi
        exact ih j i row row' x y hrow hj hx hi (hrep j i row x hrow hx)
inductive ThA : AV → AV → Prop where
  | d (x y : DV) (h : Th x y) : ThA (.d x) (.d y)
  | ptr (o off : Nat) : ThA (.ptr o off) (.ptr o off)
theorem ThA.rep {w : World} {C : Cz} {a a' : AV} (h : ThA a a') {v : Value} (g : RepA w C v a) : RepA w C.thw v a' := by
  cases h with
  | d x y h => exact .d _ _ (h.rep (repA_d g))
  | ptr o off =>
    cases g with
    | ptr _ _ b e he hr hb => exact .ptr o off b e he hr hb
inductive ThL : List AV → List AV → Prop where
  | nil : ThL [] []
  | cons {a a' : AV} {l l' : List AV} (h : ThA a a') (t : ThL l l') : ThL (a :: l) (a' :: l')
theorem ThL.rep {w : World} {C : Cz} {l l' : List AV} (h : ThL l l') : ∀ {vs : List Value}, RepL w C vs l → RepL w C.thw vs l' := by
  induction h with
  | nil => intro vs g; exact ⟨g.1, fun i v a hv ha => by simp at ha⟩
  | @cons a a' l l' h t ih =>
    intro vs g
    obtain ⟨g1, g2⟩ := g
    cases vs with
    | nil => simp at g1
    | cons v vs =>
      have := ih (vs := vs) ⟨by simpa using g1, fun i u b hu hb => g2 (i + 1) u b (by simpa using hu) (by simpa using hb)⟩
      refine ⟨by simpa using this.1, fun i u b hu hb => ?_⟩
      cases i with
      | zero => simp at hu hb; subst hu; subst hb; exact h.rep (g2 0 _ _ rfl rfl)
      | succ i => exact this.2 i u b (by simpa using hu) (by simpa using hb)
inductive ThV : Val → Val → Prop where
  | c {a a' : AV} (h : ThA a a') : ThV (.c a) (.c a')
  | agg {l l' : List AV} (h : ThL l l') : ThV (.agg l) (.agg l')
theorem ThV.rep {w : World} {C : Cz} {x y : Val} (h : ThV x y) {v : Value} (g : RepV w C v x) : RepV w C.thw v y := by
  cases h with
  | c h => exact .c _ _ (h.rep (c_of g))
  | agg h =>
    cases g with
    | agg arr _ g => exact .agg arr _ (h.rep g)
/-- Objects: the same variables. -/
inductive ThO : List AObj → List AObj → Prop where
  | nil : ThO [] []
  | cons {l l' : List AV} {m m' : List AObj} (h : ThL l l') (t : ThO m m') : ThO (.var l :: m) (.var l' :: m')
  | gone {m m' : List AObj} (t : ThO m m') : ThO (.gone :: m) (.gone :: m')
theorem ThO.get {m m' : List AObj} (h : ThO m m') : m.length = m'.length ∧ ∀ (i : Nat) o', m'[i]? = some o' → (∃ l l', m[i]? = some (.var l) ∧ o' = .var l' ∧ ThL l l') ∨ o' = .gone := by
  induction h with
  | nil => exact ⟨rfl, fun i o h => by simp at h⟩
  | @cons l l' m m' h t ih =>
    refine ⟨by simp [ih.1], fun i o' ho => ?_⟩
    cases i with
    | zero => simp at ho; exact .inl ⟨l, l', rfl, ho.symm, h⟩
    | succ i => exact ih.2 i o' (by simpa using ho)
  | @gone m m' t ih =>
    refine ⟨by simp [ih.1], fun i o' ho => ?_⟩
    cases i with
    | zero => simp at ho; exact .inr ho.symm
    | succ i => exact ih.2 i o' (by simpa using ho)
structure ThS (S S' : St) : Prop where
  env : ∀ p, p ∈ S'.env → ThV (get S.env p.1) p.2
  σ : ThO S.σ S'.σ
  n : S.n = S'.n
  ds : S.ds = [] ∧ S'.ds = []
theorem ThS.ok {w : World} {C : Cz} {a : Act} {S S' : St} (h : ThS S S') (hI : Inv w C S.σ) (hE : EnvOk w C a S) : Inv w C.thw S'.σ ∧ EnvOk w C.thw a S' ∧ (∀ b, Lives C.thw S'.σ b → Lives C S.σ b) := by
  obtain ⟨hl, hg⟩ := h.σ.get
  have hget : ∀ (i : Nat) o', S'.σ[i]? = some o' → o'.live = true → ∃ o, S.σ[i]? = some o ∧ o.live = true := fun i o' ho hlv => by
    rcases hg i o' ho with ⟨l, l', h1, h2, h3⟩ | rfl
    · exact ⟨_, h1, rfl⟩
    · cases hlv
  refine ⟨⟨hI.len.trans hl, fun i o' e ho he => ?_, fun i o' e b h1 h2 h3 h4 => ?_, fun i j o p e f b h1 h2 h3 h4 h5 h6 h7 h8 => ?_, fun b r hb => ?_, hI.glb.mono fun b hb => ⟨some_thw hb (by decide) (by decide), rfl⟩⟩, ⟨hE.size.trans h.n, fun t => ?_, by rw [h.ds.2]; have := hE.dlen; rw [h.ds.1] at this; exact this, fun i d x h1 h2 => by rw [h.ds.2] at h2; simp at h2⟩, fun b hb => ?_⟩
  · rcases hg i o' ho with ⟨l, l', q1, rfl, q3⟩ | rfl
    · obtain ⟨g1, b, cs, ty, g2, g3, g4⟩ := hI.ok i _ e q1 he
      exact ⟨g1, b, cs, ty, g2, g3, q3.rep g4⟩
    · trivial
  · obtain ⟨o, q1, q2⟩ := hget i o' h1 h2
    have := hI.unrg i o e b q1 q2 h3 h4
    exact ⟨thw_none this.1, this.2⟩
  · obtain ⟨o1, q1, q2⟩ := hget i o h1 h3
    obtain ⟨o2, r1, r2⟩ := hget j p h2 h4
    exact hI.apart i j o1 o2 e f b q1 r1 q2 r2 h5 h6 h7 h8
  · obtain ⟨q, hq, _⟩ := thw_some hb
    exact hI.rgs b q hq
  · rcases get_mem S'.env t with h1 | ⟨v, h1, h2⟩
    · rw [h1]; exact .junk _
    · rw [h2]
      exact (h.env _ h1).rep (hE.env t)
  · obtain ⟨i, o', e, h1, h2, h3, h4⟩ := hb
    obtain ⟨o, q1, q2⟩ := hget i o' h1 h2
    exact ⟨i, o, e, q1, q2, h3, h4⟩

section
variable {P : Program} {T : Tab}
/-- Code behind a start at which the blocks of tags 1 and 4 were hidden. -/
def AWx (P : Program) (T : Tab) (ρ : Nat) (w0 : World) (C0 : Cz) (σ0 : List AObj) (c : Code) (S : St) (K : AEx → St → Prop) : Prop :=
  ∀ (w : World) (C : Cz) (a : Act), Inv w C S.σ → EnvOk w C a S → Ext w0 C0.hid σ0 w C S.σ → c.wp P (Post w0 C0 σ0 K) a w
theorem AW.hide {ρ : Nat} {c : Code} {S : St} {K : AEx → St → Prop} (hS : PlS S) (h : ∀ w0 C0, Inv w0 C0 S.σ → AWx P T ρ w0 C0 S.σ c S K) : AW P T ρ c S K :=
  ⟨fun w C a hI hE => by
    obtain ⟨h1, h2⟩ := hS.ok hI hE
    exact h w C hI w C.hid a h1 h2 (.refl w C.hid S.σ)⟩
theorem AWx.step {ρ : Nat} {w0 : World} {C0 : Cz} {σ0 : List AObj} {x y : Code} {S S1 : St} {K : AEx → St → Prop} (hn : Nat.ble S.σ.length S1.σ.length = true) (h1 : AW P T ρ x S (athen (fun S' => FitsX S' S1) (fun _ _ => False))) (h2 : AWx P T ρ w0 C0 σ0 y S1 K) : AWx P T ρ w0 C0 σ0 (.seq x y) S K :=
  fun w C a hI hE hX => wp_seq (wp_mono (h1.out w C a hI hE) fun e a' w' ⟨z, S', C', k, x, i, en, ex⟩ => by
    cases e <;> cases z <;> first | (exact x.elim) | (exact k.elim) | skip
    obtain ⟨C1, i1, e1, x1⟩ := k.fits.ok i en
    exact h2 w' C1 a' i1 e1 (hX.trans (x1 (Nat.le_of_ble_eq_true hn) hI.len ex)))
/-- The blocks of tags 1 and 4 are from now on written over. -/
theorem AWx.thaw {ρ : Nat} {w0 : World} {C0 : Cz} {σ0 : List AObj} {c : Code} {S S' : St} {K : AEx → St → Prop} (hI0 : Inv w0 C0 σ0) (hS : ThS S S') (h : AW P T ρ c S' K) : AWx P T ρ w0 C0 σ0 c S K :=
  fun w C a hI hE hX => by
    obtain ⟨hI1, hE1, hlv⟩ := hS.ok hI hE
    refine wp_mono (h.out w C.thw a hI1 hE1) ?_
    rintro e a' w' ⟨z, S2, C2, k, x, i, en, ex⟩
    -- a block that was hidden is told of nowhere
    have hid0 : ∀ b r, C0.rg b = some r → (r = 1 ∨ r = 4) → C0.hid.rg b = none := fun b r h hr => by
      show hidR C0.rg b = none
      unfold hidR
      rw [h]
      simp [hr]
    have hnl : ∀ b, C0.rg b ≠ none → ¬ Lives C0 σ0 b := fun b hb ⟨i, o, e, h1, h2, h3, h4⟩ => hb (hI0.unrg i o e b h1 h2 h3 h4).1
    have hnl1 : ∀ b, b < w0.heap.size → ¬ Lives C0 σ0 b → ¬ Lives C S.σ b := fun b hb hn hl => by
      rcases hX.lives b hl with h1 | h1
      · exact hn h1
      · omega
    have hnl2 : ∀ b, b < w0.heap.size → ¬ Lives C0 σ0 b → ¬ Lives C2 S2.σ b := fun b hb hn hl => by
      rcases ex.lives b hl with h1 | h1
      · exact hnl1 b hb hn (hlv b h1)
      · have := hX.size; omega
    have hC : ∀ b r, b < w0.heap.size → ¬ Lives C0 σ0 b → C.rg b = some r → C0.hid.rg b = some r := fun b r hb hn hr => by
      rcases hX.newrg b r hr with h1 | h1 | h1
      · exact h1
      · exact absurd h1 hn
      · omega
    have hhid : ∀ b r, C0.rg b = some r → (r = 1 ∨ r = 4) → C.rg b = none ∧ C2.rg b = none := fun b r hb hr => by
      have h1 := hI0.rgs b r hb
      have h2 := hnl b (by rw [hb]; simp)
      have h3 : C.rg b = none := by
        cases hc : C.rg b with
        | none => rfl
        | some q => have := hC b q h1 h2 hc; rw [hid0 b r hb hr] at this; cases this
      refine ⟨h3, ?_⟩
      cases hc : C2.rg b with
      | none => rfl
      | some q =>
        rcases ex.newrg b q hc with h4 | h4 | h4
        · obtain ⟨q', hq', _⟩ := thw_some h4
          rw [h3] at hq'; cases hq'
        · exact absurd (hlv b h4) (hnl1 b h1 h2)
        · have := hX.size; omega
    let C3 : Cz := ⟨C2.θ, fun b => match C0.rg b with | some r => if r = 1 ∨ r = 4 then some r else C2.rg b | none => C2.rg b⟩
    have c3h : ∀ b r, C0.rg b = some r → (r = 1 ∨ r = 4) → C3.rg b = some r := fun b r hb hr => by simp only [C3]; rw [hb]; simp [hr]
    have c3n : ∀ b, (∀ r, C0.rg b = some r → ¬ (r = 1 ∨ r = 4)) → C3.rg b = C2.rg b := fun b hb => by
      simp only [C3]
      cases hc : C0.rg b with
      | none => rfl
      | some r => simp [hb r hc]
    have hid_or : ∀ b, (∃ r, C0.rg b = some r ∧ (r = 1 ∨ r = 4)) ∨ (∀ r, C0.rg b = some r → ¬ (r = 1 ∨ r = 4)) := fun b => by
      by_cases hb : ∃ r, C0.rg b = some r ∧ (r = 1 ∨ r = 4)
      · exact .inl hb
      · exact .inr fun r h1 h2 => hb ⟨r, h1, h2⟩
    have hle : CzLe w' C2 w' C3 := ⟨fun b r hb => by
      rcases hid_or b with ⟨r0, h1, h2⟩ | h1
      · rw [(hhid b r0 h1 h2).2] at hb; cases hb
      · exact ⟨by rw [c3n b h1]; exact hb, .inl rfl⟩, fun i e he => ⟨e, he, .refl e⟩⟩
    -- old blocks that may not be written over stand
    have hold : ∀ b, b < w0.heap.size → ¬ Lives C0 σ0 b → (∀ r, C0.hid.rg b = some r → isW r = false) → w'.heap[b]? = w0.heap[b]? := fun b hb hn hw => by
      have h1 := hX.frame b hb hn hw
      refine (ex.frame b (by have := hX.size; omega) (fun hl => hnl1 b hb hn (hlv b hl)) (fun r hr => ?_)).trans h1
      obtain ⟨q, hq, h2⟩ := thw_some hr
      have h3 := hC b q hb hn hq
      rcases h2 with ⟨rfl, _⟩ | ⟨rfl, _⟩ | ⟨rfl, _⟩
      · exact hw _ h3
      · exact absurd rfl (hid_some h3).2.1
      · exact absurd rfl (hid_some h3).2.2
    refine ⟨z, S2, C3, k, ?_, ⟨i.len, fun j o e ho he => (i.ok j o e ho he).keep hle (fun _ _ _ => rfl), fun j o e b h1 h2 h3 h4 => ?_, i.apart, fun b r hb => ?_, i.glb.le hle⟩, en.mono hle,
      ⟨ex.os.trans hX.os, ex.tape.trans hX.tape, ex.output.trans hX.output, Nat.le_trans hX.size ex.size, ⟨fun b r hb => ?_, fun j e he => ?_⟩, fun b hb hn hw => ?_, fun b hb => ?_, fun b r hb => ?_⟩⟩
    · cases e <;> cases z <;> first | exact x | (obtain ⟨v, x1, x2⟩ := x; exact ⟨v, x1, x2.mono hle⟩)
    · have h5 := i.unrg j o e b h1 h2 h3 h4
      refine ⟨?_, h5.2⟩
      rcases hid_or b with ⟨r0, g1, g2⟩ | g1
      · exact absurd ⟨j, o, e, h1, h2, h3, h4⟩ (hnl2 b (hI0.rgs b r0 g1) (hnl b (by rw [g1]; simp)))
      · rw [c3n b g1]; exact h5.1
    · rcases hid_or b with ⟨r0, g1, g2⟩ | g1
      · have := hI0.rgs b r0 g1; have := hX.size; have := ex.size; omega
      · rw [c3n b g1] at hb; exact i.rgs b r hb
    · have hb0 := hI0.rgs b r hb
      by_cases hr : r = 1 ∨ r = 4
      · refine ⟨c3h b r hb hr, .inl (hold b hb0 (hnl b (by rw [hb]; simp)) (fun q hq => ?_))⟩
        rw [hid0 b r hb hr] at hq; cases hq
      · have h1 : C0.hid.rg b = some r := some_hid hb (fun e => hr (.inl e)) (fun e => hr (.inr e))
        obtain ⟨g1, g2⟩ := hX.le.rg b r h1
        have g3 : C.thw.rg b = some r := some_thw g1 (fun e => hr (.inl e)) (fun e => hr (.inr e))
        obtain ⟨q1, q2⟩ := ex.le.rg b r g3
        exact ⟨(hle.rg b r q1).1, g2.trans q2⟩
    · obtain ⟨e1, g1, g2⟩ := hX.le.θ j e he
      obtain ⟨e2, q1, q2⟩ := ex.le.θ j e1 g1
      exact ⟨e2, q1, g2.trans q2⟩
    · exact hold b hb hn fun r hr => hw r (hid_some hr).1
    · have hb2 : Lives C2 S2.σ b := hb
      rcases ex.lives b hb2 with h1 | h1
      · exact hX.lives b (hlv b h1)
      · exact .inr (Nat.le_trans hX.size h1)
    · rcases hid_or b with ⟨r0, g1, g2⟩ | g1
      · rw [c3h b r0 g1 g2] at hb; cases hb; exact .inl g1
      · rw [c3n b g1] at hb
        rcases ex.newrg b r hb with h1 | h1 | h1
        · obtain ⟨q, hq, h2⟩ := thw_some h1
          rcases hX.newrg b q hq with h3 | h3 | h3
          · have h4 := hid_some h3
            rcases h2 with ⟨rfl, _⟩ | ⟨rfl, _⟩ | ⟨rfl, _⟩
            · exact .inl h4.1
            · exact absurd rfl h4.2.1
            · exact absurd rfl h4.2.2
          · exact .inr (.inl h3)
          · exact .inr (.inr h3)
        · rcases hX.lives b (hlv b h1) with h2 | h2
          · exact .inr (.inl h2)
          · exact .inr (.inr h2)
        · exact .inr (.inr (Nat.le_trans hX.size h1))
end
end Go.Proofs.YtmaokphbfjpodaaGreatDoor.E
