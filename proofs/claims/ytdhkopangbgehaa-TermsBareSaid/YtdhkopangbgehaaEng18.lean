/- The engine, part 18: what an operation reads; the order of a drawn region. No conditions. -/
import Derived.Test.YtdhkopangbgehaaEng17
set_option linter.unusedVariables false
set_option linter.unusedSimpArgs false
set_option linter.unusedSectionVars false
namespace Go.Proofs.Ytdhkopangbgehaa.E
open Go

section
variable {P : Program} {T : Tab}

theorem aop_congr {ρ : Nat} {env env' : List (Nat × Val)} {σ : List AObj} {o : Oper} (h : ∀ x ∈ o.op.operands, ev env x = ev env' x) {K : Val → List AObj → Prop} {KD : Dfr → Prop} {KP : AV → List AObj → Prop} :
    aop P T ρ env σ o K KD KP = aop P T ρ env' σ o K KD KP := by
  obtain ⟨dst, op, type, pos, after, guard⟩ := o
  have pairs : ∀ ps : Array (Nat × Operand), (∀ x ∈ ps.toList.map (·.2), ev env x = ev env' x) →
      (ps.toList.map fun p => (p.1, ev env p.2)) = (ps.toList.map fun p => (p.1, ev env' p.2)) := fun ps hp =>
    List.map_congr_left fun p hm => by rw [hp p.2 (List.mem_map.2 ⟨p, hm, rfl⟩)]
  have arr : ∀ ps : Array Operand, (∀ x ∈ ps, ev env x = ev env' x) → ps.toList.map (ev env) = ps.toList.map (ev env') := fun ps hp =>
    List.map_congr_left fun x hm => hp x (by simpa using hm)
  have opt : ∀ ps : Option Operand, (∀ x ∈ ps.toArray, ev env x = ev env' x) → ps.map (ev env) = ps.map (ev env') := fun ps hp => by
    cases ps with
    | none => rfl
    | some x => simp [hp x (by simp)]
  unfold aop
  cases op <;> simp only [Op.operands] at h <;> simp only
  case build t ps => rw [pairs ps fun x hx => h x (by simpa using hx)]
  case buildSlice t n ps => rw [pairs ps fun x hx => h x (by simpa using hx)]
  case makeFunc fn first captured => rw [arr first fun x hx => h x (by simp [hx]), arr captured fun x hx => h x (by simp [hx])]
  case slice t x lo hi mx => rw [h x (by simp), opt lo fun y hy => h y (by simp only [Array.mem_append]; exact .inl (.inl (.inr hy))), opt hi fun y hy => h y (by simp only [Array.mem_append]; exact .inl (.inr hy)), opt mx fun y hy => h y (by simp only [Array.mem_append]; exact .inr hy)]
  case call c =>
    have ha := arr c.args fun x hx => h x (by simp [Call.operands, hx])
    rw [ha]
    split
    · rename_i f hf
      rw [h f (by simp [Call.operands, hf])]
    · rfl
    · rfl
  case defer c =>
    have ha := arr c.args fun x hx => h x (by simp [Call.operands, hx])
    rw [ha]
    split
    · rename_i f hf
      rw [h f (by simp [Call.operands, hf])]
    · rfl
  all_goals (first | rfl | (simp_all; done))

/-! ### What is read, what must come first -/
def opTmps (o : Oper) : List Nat := o.op.operands.toList.filterMap fun | .tmp t => some t | _ => none
def reads (ops : Array Oper) (o : Oper) : List Nat :=
  opTmps o ++ (match o.guard with
    | some (g, _) => (match dstOf ops g with | some d => [d] | none => [])
    | none => [])

theorem ev_same {env env' : List (Nat × Val)} {o : Oper} (h : ∀ t ∈ opTmps o, get env t = get env' t) : ∀ x ∈ o.op.operands, ev env x = ev env' x := fun x hx => by
  cases x with
  | tmp t => exact h t (List.mem_filterMap.2 ⟨.tmp t, by simpa using hx, rfl⟩)
  | _ => rfl

def aftE : List Edge → Nat → Bool
  | [], _ => false
  | e :: l, m => (Region.binds .any e && Nat.beq e.on m) || aftE l m
def aft (ops : Array Oper) (m j : Nat) : Bool := match ops[j]? with
  | some o => aftE o.after.toList m
  | none => false

theorem aftE_mem : ∀ {l : List Edge} {m : Nat}, aftE l m = true → ∃ e ∈ l, Region.binds .any e = true ∧ e.on = m
  | e :: l, m, h => by
    simp only [aftE, Bool.or_eq_true, Bool.and_eq_true] at h
    rcases h with ⟨h1, h2⟩ | h
    · exact ⟨e, by simp, h1, Nat.eq_of_beq_eq_true h2⟩
    · obtain ⟨e', h1, h2⟩ := aftE_mem h
      exact ⟨e', by simp [h1], h2⟩
theorem aft_mem {ops : Array Oper} {m j : Nat} (h : aft ops m j = true) : ∃ o, ops[j]? = some o ∧ ∃ e ∈ o.after, Region.binds .any e = true ∧ e.on = m := by
  unfold aft at h
  split at h
  · rename_i o ho
    obtain ⟨e, h1, h2⟩ := aftE_mem h
    exact ⟨o, ho, e, by simpa using h1, h2⟩
  · cases h

/-- The rest of the order is as the edges want it. -/
def resp (ops : Array Oper) : List Nat → Bool
  | [] => true
  | i :: r => !aft ops i i && r.all (fun m => !aft ops m i) && resp ops r

def loudAt (ops : Array Oper) (i : Nat) : Bool := match ops[i]? with
  | some o => loud o
  | none => true

def seg (ops : Array Oper) (L : List Nat) : List Nat → Bool
  | [] => true
  | j :: r => L.any (fun m => aft ops m j) && (loudAt ops j || seg ops (j :: L) r)
def good (ops : Array Oper) : List Nat → Bool
  | [] => true
  | i :: r => (!loudAt ops i || seg ops [i] r) && good ops r

theorem seg_spec {ops : Array Oper} {X : List Nat} : ∀ {r L : List Nat}, seg ops L r = true → good ops r = true → (∀ m ∈ L, m ∈ X) → (∀ m ∈ r, m ∈ X) → ∀ j ∈ r, ∃ m ∈ X, aft ops m j = true
  | h :: t, L, hs, hg, hL, hr, j, hj => by
    simp only [seg, Bool.and_eq_true, List.any_eq_true, Bool.or_eq_true] at hs
    simp only [good, Bool.and_eq_true] at hg
    obtain ⟨⟨m, hm, hb⟩, hs2⟩ := hs
    rcases List.mem_cons.1 hj with rfl | hj
    · exact ⟨m, hL m hm, hb⟩
    · rcases hs2 with hl | hs2
      · have hg1 := hg.1
        rw [hl] at hg1
        exact seg_spec (L := [h]) (by simpa using hg1) hg.2 (fun m hm => by simp at hm; subst hm; exact hr m (by simp)) (fun m hm => hr m (by simp [hm])) j hj
      · exact seg_spec hs2 hg.2 (fun m hm => by
          rcases List.mem_cons.1 hm with rfl | hm
          · exact hr m (by simp)
          · exact hL m hm) (fun m hm => hr m (by simp [hm])) j hj

theorem good_spec {ops : Array Oper} {i : Nat} {r : List Nat} (hg : good ops (i :: r) = true) (hl : loudAt ops i = true) : ∀ j ∈ r, ∃ m ∈ i :: r, aft ops m j = true := by
  simp only [good, Bool.and_eq_true, Bool.or_eq_true, hl] at hg
  exact seg_spec (X := i :: r) (by simpa using hg.1) hg.2 (fun m hm => by simp at hm; simp [hm]) (fun m hm => by simp [hm])

/-- Slots are written by one operation each, and read in order. -/
def apart1 (ops : Array Oper) (n : Nat) (j : Nat) (oj : Oper) : Nat → Bool
  | 0 => true
  | m + 1 => (match ops[m]? with
      | none => true
      | some om => match om.dst with
        | none => true
        | some d => (Nat.beq m j || (match oj.dst with | some d' => !Nat.beq d' d | none => true)) &&
            (!(reads ops oj).any (fun t => Nat.beq t d) || aft ops m j || (loud om && (Nat.beq m j || aft ops j m)))) && apart1 ops n j oj m
def apartB (ops : Array Oper) (n : Nat) : Nat → Bool
  | 0 => true
  | j + 1 => (match ops[j]? with
      | none => true
      | some oj => oj.after.toList.all (fun e => !Region.binds .any e || Nat.blt e.on j) && apart1 ops n j oj n) && apartB ops n j

theorem apart1_spec {ops : Array Oper} {n j : Nat} {oj : Oper} : ∀ {k : Nat}, apart1 ops n j oj k = true → ∀ m, m < k → ∀ om d, ops[m]? = some om → om.dst = some d →
    (m = j ∨ oj.dst ≠ some d) ∧ (d ∈ reads ops oj → aft ops m j = true ∨ (loud om = true ∧ (m = j ∨ aft ops j m = true)))
  | k + 1, h, m, hm, om, d, ho, hd => by
    simp only [apart1, Bool.and_eq_true] at h
    by_cases e : m = k
    · subst e
      have h1 := h.1
      simp only [ho, hd, Bool.and_eq_true, Bool.or_eq_true] at h1
      obtain ⟨h2, h3⟩ := h1
      refine ⟨?_, fun hr => ?_⟩
      · rcases h2 with h2 | h2
        · exact .inl (Nat.eq_of_beq_eq_true h2)
        · right
          intro hh
          simp [hh] at h2
      · rcases h3 with (h3 | h3) | h3
        · exfalso
          simp at h3
          exact h3 d hr rfl
        · exact .inl h3
        · rcases h3 with ⟨h3, h4⟩
          right
          refine ⟨h3, ?_⟩
          rcases h4 with h4 | h4
          · exact .inl (Nat.eq_of_beq_eq_true h4)
          · exact .inr h4
    · exact apart1_spec h.2 m (by omega) om d ho hd

theorem apartB_spec {ops : Array Oper} {n : Nat} : ∀ {k : Nat}, apartB ops n k = true → ∀ j, j < k → ∀ oj, ops[j]? = some oj →
    (∀ e ∈ oj.after, Region.binds .any e = true → e.on < j) ∧ apart1 ops n j oj n = true
  | k + 1, h, j, hj, oj, ho => by
    simp only [apartB, Bool.and_eq_true] at h
    by_cases e : j = k
    · subst e
      have h1 := h.1
      simp only [ho, Bool.and_eq_true, List.all_eq_true, Bool.or_eq_true] at h1
      refine ⟨fun e he hb => ?_, h1.2⟩
      have := h1.1 e (by simpa using he)
      rw [hb] at this
      exact blt_lt (by simpa using this)
    · exact apartB_spec h.2 j (by omega) oj ho

def inB : List Nat → Nat → Bool
  | [], _ => false
  | j :: l, i => Nat.beq j i || inB l i
theorem inB_mem : ∀ {l : List Nat} {i : Nat}, inB l i = true ↔ i ∈ l
  | [], i => by simp [inB]
  | j :: l, i => by
    simp only [inB, Bool.or_eq_true, inB_mem, List.mem_cons]
    constructor
    · rintro (h | h)
      · exact .inl (Nat.eq_of_beq_eq_true h).symm
      · exact .inr h
    · rintro (h | h)
      · subst h; exact .inl (by simp)
      · exact .inr h
def nodB : List Nat → Bool
  | [] => true
  | i :: l => !inB l i && nodB l
theorem nodB_nodup : ∀ {l : List Nat}, nodB l = true → l.Nodup
  | [], _ => List.nodup_nil
  | i :: l, h => by
    simp only [nodB, Bool.and_eq_true] at h
    refine List.nodup_cons.2 ⟨fun hm => ?_, nodB_nodup h.2⟩
    have := h.1
    rw [inB_mem.2 hm] at this; cases this
def coverB (ord : List Nat) : Nat → Bool
  | 0 => true
  | j + 1 => inB ord j && coverB ord j
theorem coverB_mem {ord : List Nat} : ∀ {n : Nat}, coverB ord n = true → ∀ j, j < n → j ∈ ord
  | n + 1, h, j, hj => by
    simp only [coverB, Bool.and_eq_true] at h
    by_cases e : j = n
    · subst e; exact inB_mem.1 h.1
    · exact coverB_mem h.2 j (by omega)
def permB (n : Nat) (ord : List Nat) : Bool := coverB ord n && ltB n ord && nodB ord

def statB (ops : Array Oper) (ord : List Nat) : Bool :=
  permB ops.size ord && resp ops ord && good ops ord && apartB ops ops.size ops.size

end
end Go.Proofs.Ytdhkopangbgehaa.E
