/- The engine, part 12: contracts of functions on data; a call sees the objects that it is handed, and no others. No conditions. -/
import Derived.Test.YtdhkopangbgehaaEng11
set_option linter.unusedVariables false
set_option linter.unusedSimpArgs false
namespace Go.Proofs.Ytdhkopangbgehaa.E
open Go

/-! ### Which objects are mentioned; other numbers for them -/
mutual
def AV.ids : AV → List Nat
  | .d _ => []
  | .ptr o _ => [o]
  | .own o _ => [o]
  | .rowp o _ _ => [o]
  | .emp => []
  | .full _ _ _ => []
  | .mp o => [o]
  | .fn _ a b => AV.idsL a ++ AV.idsL b
  | .ifc _ x => x.ids
  | .ifa _ l => AV.idsL l
def AV.idsL : List AV → List Nat
  | [] => []
  | a :: l => a.ids ++ AV.idsL l
end

mutual
def AV.ren (f : Nat → Nat) : AV → AV
  | .d x => .d x
  | .ptr o k => .ptr (f o) k
  | .own o n => .own (f o) n
  | .rowp o n k => .rowp (f o) n k
  | .emp => .emp
  | .full r sz rows => .full r sz rows
  | .mp o => .mp (f o)
  | .fn g a b => .fn g (AV.renL f a) (AV.renL f b)
  | .ifc t x => .ifc t (x.ren f)
  | .ifa t l => .ifa t (AV.renL f l)
def AV.renL (f : Nat → Nat) : List AV → List AV
  | [] => []
  | a :: l => a.ren f :: AV.renL f l
end

theorem renL_map (f : Nat → Nat) : ∀ l, AV.renL f l = l.map (AV.ren f)
  | [] => by simp [AV.renL]
  | a :: l => by simp [AV.renL, renL_map f l]
theorem idsL_mem : ∀ {l : List AV} {a : AV}, a ∈ l → ∀ i ∈ a.ids, i ∈ AV.idsL l
  | b :: l, a, h, i, hi => by
    simp only [AV.idsL, List.mem_append]
    rcases List.mem_cons.1 h with rfl | h
    · exact .inl hi
    · exact .inr (idsL_mem h i hi)

mutual
def Val.ids : Val → List Nat
  | .c a => a.ids
  | .agg l => AV.idsL l
  | .tup vs => Val.idsL vs
  | .junk => []
def Val.idsL : List Val → List Nat
  | [] => []
  | x :: l => x.ids ++ Val.idsL l
end
mutual
def Val.ren (f : Nat → Nat) : Val → Val
  | .c a => .c (a.ren f)
  | .agg l => .agg (AV.renL f l)
  | .tup vs => .tup (Val.renL f vs)
  | .junk => .junk
def Val.renL (f : Nat → Nat) : List Val → List Val
  | [] => []
  | x :: l => x.ren f :: Val.renL f l
end
theorem vrenL_map (f : Nat → Nat) : ∀ l, Val.renL f l = l.map (Val.ren f)
  | [] => by simp [Val.renL]
  | a :: l => by simp [Val.renL, vrenL_map f l]
theorem vidsL_mem : ∀ {l : List Val} {a : Val}, a ∈ l → ∀ i ∈ a.ids, i ∈ Val.idsL l
  | b :: l, a, h, i, hi => by
    simp only [Val.idsL, List.mem_append]
    rcases List.mem_cons.1 h with rfl | h
    · exact .inl hi
    · exact .inr (vidsL_mem h i hi)

def AObj.ids : AObj → List Nat
  | .var cells => AV.idsL cells
  | _ => []
def AObj.ren (f : Nat → Nat) : AObj → AObj
  | .var cells => .var (AV.renL f cells)
  | o => o

theorem AObj.live_ren (f : Nat → Nat) (o : AObj) : (o.ren f).live = o.live := by cases o <;> rfl

/-- The same references under other numbers. -/
theorem RepA.ren {w : World} {C C' : Cz} {f : Nat → Nat} {v : Value} {a : AV} (h : RepA w C v a) (hrg : C'.rg = C.rg) : (∀ i ∈ a.ids, ∀ e, C.θ[i]? = some e → C'.θ[f i]? = some e) → RepA w C' v (a.ren f) := by
  induction h with
  | d v x h => intro _; rw [AV.ren]; exact .d v x (by rw [hrg]; exact h)
  | ptr o off b e he hr hb => intro H; rw [AV.ren]; exact .ptr _ off b e (H o (by simp [AV.ids]) e he) hr hb
  | own o n e he hr hn A c hv => intro H; rw [AV.ren]; exact .own _ n e (H o (by simp [AV.ids]) e he) hr hn A c hv
  | rowp o n k e he hr hn b hv => intro H; rw [AV.ren]; exact .rowp _ n k e (H o (by simp [AV.ids]) e he) hr hn b hv
  | emp A => intro _; rw [AV.ren]; exact .emp A
  | full A n r sz rows hn h => intro _; rw [AV.ren]; exact .full A n r sz rows hn (by rw [hrg]; exact h)
  | mp o b e he hr hb => intro H; rw [AV.ren]; exact .mp _ b e (H o (by simp [AV.ids]) e he) hr hb
  | fn g fs cs first cap vf vc h1 h2 g1 g2 r1 r2 i1 i2 =>
    intro H
    rw [AV.ren, renL_map, renL_map]
    refine .fn g fs cs _ _ vf vc (by simpa using h1) (by simpa using h2) (fun i hi => g1 i (by simpa using hi)) (fun i hi => g2 i (by simpa using hi)) (fun i x hx => ?_) (fun i x hx => ?_)
    · rw [List.getElem?_map] at hx
      cases hy : first[i]? with
      | none => rw [hy] at hx; cases hx
      | some y =>
        rw [hy] at hx; cases hx
        exact i1 i y hy (fun j hj e he => H j (by simp only [AV.ids, List.mem_append]; exact .inl (idsL_mem (List.mem_of_getElem? hy) j hj)) e he)
    · rw [List.getElem?_map] at hx
      cases hy : cap[i]? with
      | none => rw [hy] at hx; cases hx
      | some y =>
        rw [hy] at hx; cases hx
        exact i2 i y hy (fun j hj e he => H j (by simp only [AV.ids, List.mem_append]; exact .inr (idsL_mem (List.mem_of_getElem? hy) j hj)) e he)
  | ifc t v x h ih => intro H; rw [AV.ren]; exact .ifc t v _ (ih (fun i hi e he => H i (by simpa [AV.ids] using hi) e he))
  | ifa t arr cells vs hs hcell hrep ih =>
    intro H
    rw [AV.ren, renL_map]
    refine .ifa t arr _ vs (by simpa using hs) (fun i hi => hcell i (by simpa using hi)) (fun i x hx => ?_)
    rw [List.getElem?_map] at hx
    cases hy : cells[i]? with
    | none => rw [hy] at hx; cases hx
    | some y =>
      rw [hy] at hx; cases hx
      exact ih i y hy (fun j hj e he => H j (by simp only [AV.ids]; exact idsL_mem (List.mem_of_getElem? hy) j hj) e he)

/-- What is mentioned is there. -/
theorem RepA.ids_lt {w : World} {C : Cz} {v : Value} {a : AV} (h : RepA w C v a) : ∀ i ∈ a.ids, i < C.θ.length := by
  induction h with
  | ptr o off b e he hr hb => intro i hi; simp [AV.ids] at hi; subst hi; exact (List.getElem?_eq_some_iff.1 he).1
  | own o n e he hr hn A c hv => intro i hi; simp [AV.ids] at hi; subst hi; exact (List.getElem?_eq_some_iff.1 he).1
  | rowp o n k e he hr hn b hv => intro i hi; simp [AV.ids] at hi; subst hi; exact (List.getElem?_eq_some_iff.1 he).1
  | mp o b e he hr hb => intro i hi; simp [AV.ids] at hi; subst hi; exact (List.getElem?_eq_some_iff.1 he).1
  | d v x h => intro i hi; simp [AV.ids] at hi
  | emp A => intro i hi; simp [AV.ids] at hi
  | full A n r sz rows hn h => intro i hi; simp [AV.ids] at hi
  | fn g fs cs first cap vf vc h1 h2 g1 g2 r1 r2 i1 i2 =>
    intro i hi
    have key : ∀ (l : List AV), (∀ (k : Nat) x, l[k]? = some x → ∀ i ∈ x.ids, i < C.θ.length) → ∀ i ∈ AV.idsL l, i < C.θ.length := by
      intro l
      induction l with
      | nil => intro _ i hi; simp [AV.idsL] at hi
      | cons a l ih =>
        intro hh i hi
        simp only [AV.idsL, List.mem_append] at hi
        rcases hi with hi | hi
        · exact hh 0 a rfl i hi
        · exact ih (fun k x hx => hh (k + 1) x (by simpa using hx)) i hi
    simp only [AV.ids, List.mem_append] at hi
    rcases hi with hi | hi
    · exact key first (fun k x hx => i1 k x hx) i hi
    · exact key cap (fun k x hx => i2 k x hx) i hi
  | ifc t v x h ih => intro i hi; exact ih i (by simpa [AV.ids] using hi)
  | ifa t arr cells vs hs hcell hrep ih =>
    intro i hi
    have key : ∀ (l : List AV), (∀ (k : Nat) x, l[k]? = some x → ∀ i ∈ x.ids, i < C.θ.length) → ∀ i ∈ AV.idsL l, i < C.θ.length := by
      intro l
      induction l with
      | nil => intro _ i hi; simp [AV.idsL] at hi
      | cons a l ih =>
        intro hh i hi
        simp only [AV.idsL, List.mem_append] at hi
        rcases hi with hi | hi
        · exact hh 0 a rfl i hi
        · exact ih (fun k x hx => hh (k + 1) x (by simpa using hx)) i hi
    simp only [AV.ids] at hi
    exact key cells (fun k x hx => ih k x hx) i hi

theorem RepL.ren {w : World} {C C' : Cz} {f : Nat → Nat} {vs : List Value} {as : List AV} (h : RepL w C vs as) (hrg : C'.rg = C.rg) (H : ∀ i ∈ AV.idsL as, ∀ e, C.θ[i]? = some e → C'.θ[f i]? = some e) : RepL w C' vs (AV.renL f as) := by
  rw [renL_map]
  refine ⟨by simpa using h.1, fun i v a h1 h2 => ?_⟩
  rw [List.getElem?_map] at h2
  cases hy : as[i]? with
  | none => rw [hy] at h2; cases h2
  | some y =>
    rw [hy] at h2; cases h2
    exact (h.2 i v y h1 hy).ren hrg (fun j hj e he => H j (idsL_mem (List.mem_of_getElem? hy) j hj) e he)

theorem RepV.ren {w : World} {C C' : Cz} {f : Nat → Nat} {v : Value} {x : Val} (h : RepV w C v x) (hrg : C'.rg = C.rg) : (∀ i ∈ x.ids, ∀ e, C.θ[i]? = some e → C'.θ[f i]? = some e) → RepV w C' v (x.ren f) := by
  induction h with
  | c v a h => intro H; rw [Val.ren]; exact .c v _ (h.ren hrg (by simpa [Val.ids] using H))
  | agg arr cells h => intro H; rw [Val.ren]; exact .agg arr _ (h.ren hrg (by simpa [Val.ids] using H))
  | tup arr vs hs h ih =>
    intro H
    rw [Val.ren, vrenL_map]
    refine .tup arr _ (by simpa using hs) (fun i v x h1 h2 => ?_)
    rw [List.getElem?_map] at h2
    cases hy : vs[i]? with
    | none => rw [hy] at h2; cases h2
    | some y =>
      rw [hy] at h2; cases h2
      exact ih i v y h1 hy (fun j hj e he => H j (by simp only [Val.ids]; exact vidsL_mem (List.mem_of_getElem? hy) j hj) e he)
  | junk v => intro _; rw [Val.ren]; exact .junk v

theorem ObjOk.ren {w : World} {C C' : Cz} {f : Nat → Nat} {e : Ent} {o : AObj} (h : ObjOk w C e o) (hrg : C'.rg = C.rg) (H : ∀ i ∈ o.ids, ∀ e, C.θ[i]? = some e → C'.θ[f i]? = some e) : ObjOk w C' e (o.ren f) := by
  cases o with
  | var cells =>
    obtain ⟨h1, b, cs, ty, h2, h3, h4⟩ := h
    exact ⟨h1, b, cs, ty, h2, h3, h4.ren hrg H⟩
  | row t sz rows =>
    obtain ⟨h1, h2, h3, h4, h5, xs, h6, h7⟩ := h
    exact ⟨h1, h2, h3, h4, h5, xs, h6, by rw [hrg]; exact h7⟩
  | frz r cells =>
    obtain ⟨h1, b, cs, ty, fz, h2, h3, h4, h5⟩ := h
    exact ⟨h1, b, cs, ty, fz, h2, by rw [hrg]; exact h3, h4, by rw [hrg]; exact h5⟩
  | mp k t es => exact h.elim
  | gone => trivial

/-! ### Contracts -/
inductive Out where
  | ret (v : Val)
  | pan (a : AV)

def OutOk (w : World) (C : Cz) (e : Ending) : Out → Prop
  | .ret x => ∃ v, e = .returned v ∧ RepV w C v x
  | .pan a => ∃ v, e = .panicked [{ v := v, recovered := false }] ∧ RepA w C v a

def RepVs (w : World) (C : Cz) (vs : List Value) (xs : List Val) : Prop := vs.length = xs.length ∧ ∀ (i : Nat) v x, vs[i]? = some v → xs[i]? = some x → RepV w C v x

structure ACall (P : Program) (f : FuncId) (args : List Val) (σ : List AObj) (R : Out → List AObj → Prop) : Prop where
  out : ∀ (w : World) (C : Cz) (vs : Array Value), Inv w C σ → RepVs w C vs.toList args →
    Calls P f vs w fun e w' => ∃ o σ' C', R o σ' ∧ Inv w' C' σ' ∧ Ext w C σ w' C' σ' ∧ OutOk w' C' e o

theorem ACall.mono {P : Program} {f : FuncId} {args : List Val} {σ : List AObj} {R R' : Out → List AObj → Prop} (h : ACall P f args σ R) (hr : ∀ o σ', R o σ' → R' o σ') : ACall P f args σ R' :=
  ⟨fun w C vs h1 h2 => (h.out w C vs h1 h2).mono fun e w' ⟨o, σ', C', q, r⟩ => ⟨o, σ', C', hr _ _ q, r⟩⟩

/-! ### The objects that a call sees -/
def pos : List Nat → Nat → Option Nat
  | [], _ => none
  | j :: l, i => bif Nat.beq j i then some 0 else (match pos l i with | some k => some (k + 1) | none => none)

theorem pos_some : ∀ {l : List Nat} {i k : Nat}, pos l i = some k → l[k]? = some i
  | [], i, k, h => by simp [pos] at h
  | j :: l, i, k, h => by
    simp only [pos] at h
    cases hb : Nat.beq j i with
    | true => rw [hb] at h; simp at h; subst h; simp [Nat.eq_of_beq_eq_true hb]
    | false =>
      rw [hb] at h
      simp only [cond_false] at h
      split at h
      · rename_i k' hk; cases h; simpa using pos_some hk
      · cases h
theorem pos_none : ∀ {l : List Nat} {i : Nat}, pos l i = none → i ∉ l
  | [], i, h => by simp
  | j :: l, i, h => by
    simp only [pos] at h
    cases hb : Nat.beq j i with
    | true => rw [hb] at h; simp at h
    | false =>
      rw [hb] at h
      simp only [cond_false] at h
      split at h
      · cases h
      · rename_i hk
        have := pos_none hk
        have hne : ¬ i = j := fun e => by subst e; simp at hb
        simp [hne, this]
theorem pos_mem {l : List Nat} {i : Nat} (h : i ∈ l) : ∃ k, pos l i = some k := by
  cases hp : pos l i with
  | none => exact absurd h (pos_none hp)
  | some k => exact ⟨k, rfl⟩

def nodupB : List Nat → Bool
  | [] => true
  | i :: l => (match pos l i with | none => true | some _ => false) && nodupB l
theorem nodupB_inj : ∀ {l : List Nat}, nodupB l = true → ∀ {i j k : Nat}, l[i]? = some k → l[j]? = some k → i = j
  | [], _, i, j, k, h1, _ => by simp at h1
  | x :: l, h, i, j, k, h1, h2 => by
    simp only [nodupB, Bool.and_eq_true] at h
    have hx : x ∉ l := by
      obtain ⟨h, -⟩ := h
      split at h
      · rename_i hp; exact pos_none hp
      · cases h
    cases i with
    | zero =>
      cases j with
      | zero => rfl
      | succ j => simp at h1 h2; subst h1; exact absurd (List.mem_of_getElem? h2) hx
    | succ i =>
      cases j with
      | zero => simp at h1 h2; subst h2; exact absurd (List.mem_of_getElem? h1) hx
      | succ j => simp at h1 h2; rw [nodupB_inj h.2 h1 h2]
theorem nodup_pos {l : List Nat} (h : nodupB l = true) {k i : Nat} (hk : l[k]? = some i) : pos l i = some k := by
  obtain ⟨k', hk'⟩ := pos_mem (List.mem_of_getElem? hk)
  rw [hk', nodupB_inj h (pos_some hk') hk]

def subB (L : List Nat) : List Nat → Bool
  | [] => true
  | i :: l => (match pos L i with | some _ => true | none => false) && subB L l
theorem subB_mem {L : List Nat} : ∀ {l : List Nat}, subB L l = true → ∀ i ∈ l, i ∈ L
  | j :: l, h, i, hi => by
    simp only [subB, Bool.and_eq_true] at h
    rcases List.mem_cons.1 hi with rfl | hi
    · obtain ⟨h, -⟩ := h
      split at h
      · rename_i k hk; exact List.mem_of_getElem? (pos_some hk)
      · cases h
    · exact subB_mem h.2 i hi

def idx (L : List Nat) (i : Nat) : Nat := match pos L i with | some k => k | none => 0
def obj (σ : List AObj) (i : Nat) : AObj := match σ[i]? with | some o => o | none => .gone
def sub (σ : List AObj) (L M : List Nat) : List AObj := match M with
  | [] => []
  | i :: M => (obj σ i).ren (idx L) :: sub σ L M
def un (L : List Nat) (n j : Nat) : Nat := match L[j]? with | some i => i | none => n + (j - L.length)
def back (L : List Nat) (n : Nat) (σc : List AObj) : Nat → List AObj → List AObj
  | _, [] => (σc.drop L.length).map (AObj.ren (un L n))
  | i, o :: σ => (match pos L i with | some k => (obj σc k).ren (un L n) | none => o) :: back L n σc (i + 1) σ

def closedB (σ : List AObj) (L : List Nat) : List Nat → Bool
  | [] => true
  | i :: M => (match σ[i]? with | some o => subB L o.ids | none => false) && closedB σ L M
theorem closedB_mem {σ : List AObj} {L : List Nat} : ∀ {M : List Nat}, closedB σ L M = true → ∀ i ∈ M, ∃ o, σ[i]? = some o ∧ ∀ j ∈ o.ids, j ∈ L
  | k :: M, h, i, hi => by
    simp only [closedB, Bool.and_eq_true] at h
    rcases List.mem_cons.1 hi with rfl | hi
    · obtain ⟨h, -⟩ := h
      split at h
      · rename_i o ho; exact ⟨o, ho, subB_mem h⟩
      · cases h
    · exact closedB_mem h.2 i hi

theorem sub_get (σ : List AObj) (L : List Nat) : ∀ (M : List Nat) (k : Nat), (sub σ L M)[k]? = (M[k]?).map fun i => (obj σ i).ren (idx L)
  | [], k => by simp [sub]
  | i :: M, k => by cases k with
    | zero => simp [sub]
    | succ k => simp [sub, sub_get σ L M k]
theorem sub_len (σ : List AObj) (L : List Nat) : ∀ (M : List Nat), (sub σ L M).length = M.length
  | [] => rfl
  | i :: M => by simp [sub, sub_len σ L M]

theorem back_get (L : List Nat) (n : Nat) (σc : List AObj) : ∀ (σ : List AObj) (i k : Nat), (back L n σc i σ)[k]? =
    if k < σ.length then (match pos L (i + k) with | some q => some ((obj σc q).ren (un L n)) | none => σ[k]?) else ((σc.drop L.length)[k - σ.length]?).map (AObj.ren (un L n))
  | [], i, k => by simp [back]
  | o :: σ, i, k => by
    cases k with
    | zero => simp [back]; split <;> simp
    | succ k =>
      simp only [back, List.getElem?_cons_succ, back_get L n σc σ (i + 1) k, List.length_cons]
      rw [show i + 1 + k = i + (k + 1) by omega]
      by_cases h : k < σ.length
      · rw [if_pos h, if_pos (by omega)]
      · rw [if_neg h, if_neg (by omega), show k + 1 - (σ.length + 1) = k - σ.length by omega]
theorem back_len (L : List Nat) (n : Nat) (σc : List AObj) : ∀ (σ : List AObj) (i : Nat), (back L n σc i σ).length = σ.length + (σc.length - L.length)
  | [], i => by simp [back]
  | o :: σ, i => by simp [back, back_len L n σc σ (i + 1)]; omega

end Go.Proofs.Ytdhkopangbgehaa.E
