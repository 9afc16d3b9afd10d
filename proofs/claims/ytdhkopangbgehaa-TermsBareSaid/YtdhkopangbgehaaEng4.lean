/- The engine, part 4: what single operations (no calls) do to data, and that the machine does the same. No conditions. -/
import Derived.Test.YtdhkopangbgehaaEng3
set_option linter.unusedVariables false
set_option linter.unusedSimpArgs false
namespace Go.Proofs.Ytdhkopangbgehaa.E
open Go

/-- A computation of the machine comes to a value, as K wants it. -/
def OK1 (P : Program) (s : Sem Value) (w : World) (C : Cz) (σ : List AObj) (K : Val → List AObj → Prop) : Prop :=
  ∃ v w' C' x σ', s.run P w = .ok v w' ∧ K x σ' ∧ Inv w' C' σ' ∧ Ext w C σ w' C' σ' ∧ RepV w' C' v x

theorem OK1.same {P : Program} {s : Sem Value} {w : World} {C : Cz} {σ : List AObj} {K : Val → List AObj → Prop} (hi : Inv w C σ) {v : Value} {x : Val} (h : s.run P w = .ok v w) (hk : K x σ) (hr : RepV w C v x) :
    OK1 P s w C σ K := ⟨v, w, C, x, σ, h, hk, hi, .refl w C σ, hr⟩

/-- The same, the world as it was. -/
def OKS (P : Program) (s : Sem Value) (w : World) (C : Cz) (K : Val → Prop) : Prop := ∃ v x, s.run P w = .ok v w ∧ K x ∧ RepV w C v x
theorem OKS.same {P : Program} {s : Sem Value} {w : World} {C : Cz} {K : Val → Prop} {v : Value} {x : Val} (h : s.run P w = .ok v w) (hk : K x) (hr : RepV w C v x) : OKS P s w C K := ⟨v, x, h, hk, hr⟩
theorem OKS.ok1 {P : Program} {s : Sem Value} {w : World} {C : Cz} {σ : List AObj} {K : Val → List AObj → Prop} (hi : Inv w C σ) (h : OKS P s w C (fun v => K v σ)) : OK1 P s w C σ K := by
  obtain ⟨v, x, h1, h2, h3⟩ := h
  exact OK1.same hi h1 h2 h3

section
variable {P : Program} {T : Tab} (HT : TabOk P T)

def takeN {α : Type} : Nat → List α → Option (List α)
  | 0, _ => some []
  | n + 1, a :: l => match takeN n l with | some r => some (a :: r) | none => none
  | _ + 1, [] => none

theorem takeN_some {α : Type} : ∀ {n : Nat} {l r : List α}, takeN n l = some r → r.length = n ∧ n ≤ l.length ∧ r = l.take n
  | 0, l, r, h => by simp [takeN] at h; subst h; simp
  | n + 1, [], r, h => by simp [takeN] at h
  | n + 1, a :: l, r, h => by
    simp only [takeN] at h
    split at h
    · rename_i r' hr
      obtain ⟨h1, h2, h3⟩ := takeN_some hr
      cases h
      simp [h1, h2, h3]
    · cases h

/-- The cells of a place, as a value of type i. -/
def aCells (i : TI) (cs : List AV) (K : Val → Prop) : Prop :=
  bif i.agg then (match takeN i.sz cs with | some ys => K (.agg ys) | none => False)
  else (match cs with | a :: _ => K (.c a) | [] => False)

theorem RepL.drop {w : World} {C : Cz} {vs : List Value} {as : List AV} (h : RepL w C vs as) (k : Nat) : RepL w C (vs.drop k) (as.drop k) :=
  ⟨by simp [h.1], fun i v a h1 h2 => h.2 (k + i) v a (by simpa using h1) (by simpa using h2)⟩
theorem RepL.take {w : World} {C : Cz} {vs : List Value} {as : List AV} (h : RepL w C vs as) (k : Nat) : RepL w C (vs.take k) (as.take k) :=
  ⟨by simp [h.1], fun i v a h1 h2 => by
    rw [List.getElem?_take] at h1 h2
    split at h1
    · rw [if_pos ‹_›] at h2; exact h.2 i v a h1 h2
    · cases h1⟩

include HT in
/-- A place that holds these values is read. -/
theorem ok_cells (t : Nat) (i : TI) (hi : T.ti t = some i) {w : World} {C : Cz} {σ : List AObj} (hI : Inv w C σ) (b o : Nat) (cs : Array Value) (ty : TypeId) (fz : Nat × Nat)
    (hh : w.heap[b]? = some (.cells cs ty fz)) {as : List AV} (hr : RepL w C (cs.toList.drop o) as) {K : Val → List AObj → Prop} (hk : aCells i as (fun v => K v σ)) :
    OKS P (Instr.loadAt t (.pointer (some ⟨b, o, none⟩))) w C (fun v => K v σ) := by
  obtain ⟨info, d, z, h1, h2, h3, h4, h6, h7, h8, h9, h10, h11, h12⟩ := ti_parts (HT.ti t i hi)
  have hc : ∀ j v, (cs.toList.drop o)[j]? = some v → w.cell? ⟨b, o + j, none⟩ = some v := fun j v hv => by
    rw [List.getElem?_drop, Array.getElem?_toList] at hv
    simp [World.cell?, hh, hv]
  unfold aCells at hk
  cases ha : i.agg with
  | true =>
    rw [ha] at hk
    simp only [cond_true] at hk
    split at hk
    · rename_i ys hy
      obtain ⟨g1, g2, g3⟩ := takeN_some hy
      have hl : ((cs.toList.drop o).take i.sz).length = i.sz := by rw [List.length_take, hr.1]; omega
      refine OKS.same (v := .agg ((cs.toList.drop o).take i.sz).toArray) (run_loadAt_mid (P := P) w b o t _ d (fun j v hv => hc j v ?_) h2 (by rw [h11, ha]) ?_) hk (.agg _ _ ?_)
      · rw [List.getElem?_take] at hv
        split at hv
        · exact hv
        · cases hv
      · rw [h1, hl]; simp [h4]
      · rw [g3]; simpa using hr.take i.sz
    · exact hk.elim
  | false =>
    rw [ha] at hk
    simp only [cond_false] at hk
    split at hk
    · rename_i a l
      obtain ⟨v, hv⟩ : ∃ v, (cs.toList.drop o)[0]? = some v := ⟨_, List.getElem?_eq_getElem (by rw [hr.1]; simp)⟩
      have hcell := hc 0 v hv
      have hag : (isAgg t).run P w = .ok false w := by
        unfold isAgg
        rw [Sem.run_bind, run_underlying h2 w]
        rw [ha] at h11
        cases d <;> simp_all [TypeDesc.isRow]
      refine OKS.same (v := v) ?_ hk (.c _ _ (hr.2 0 v a hv rfl))
      simp only [Nat.add_zero] at hcell
      simp [Instr.loadAt, Instr.sureAddr, loadVar, hag, hcell]
    · exact hk.elim

theorem RepL.ofD {w : World} {C : Cz} {vs : List Value} {xs : List DV} (hl : vs.length = xs.length) (h : ∀ (i : Nat) v x, vs[i]? = some v → xs[i]? = some x → RepD w C.rg v x) : RepL w C vs (xs.map .d) :=
  ⟨by simp [hl], fun i v a h1 h2 => by
    rw [List.getElem?_map] at h2
    cases hx : xs[i]? with
    | none => rw [hx] at h2; cases h2
    | some x => rw [hx] at h2; cases h2; exact .d _ _ (h i v x h1 hx)⟩

/-! load -/
def aLoad (T : Tab) (σ : List AObj) (t : Nat) (x : Val) (K : Val → List AObj → Prop) : Prop :=
  match T.ti t with
  | none => False
  | some i => match x with
    | .c (.ptr o off) => match σ[o]? with
      | some (.var cells) => aCells i (cells.drop off) (fun v => K v σ)
      | some (.frz r cells) => aCells i ((cells.drop off).map .d) (fun v => K v σ)
      | _ => False
    | .c (.d (.rp r cells)) => aCells i (cells.map .d) (fun v => K v σ)
    | _ => False

theorem RepL.takeTo {w : World} {C : Cz} {vs : List Value} {as : List AV} (h : as.length ≤ vs.length) (h2 : ∀ (i : Nat) v a, vs[i]? = some v → as[i]? = some a → RepA w C v a) : RepL w C (vs.take as.length) as :=
  ⟨by simp; omega, fun i v a h3 h4 => h2 i v a (by rw [List.getElem?_take] at h3; split at h3; exact h3; cases h3) h4⟩

include HT in
/-- As ok_cells, where only as many are known. -/
theorem ok_cells' (t : Nat) (i : TI) (hi : T.ti t = some i) {w : World} {C : Cz} {σ : List AObj} (hI : Inv w C σ) (b o : Nat) (cs : Array Value) (ty : TypeId) (fz : Nat × Nat)
    (hh : w.heap[b]? = some (.cells cs ty fz)) {as : List AV} (hr : ∀ (j : Nat) a, as[j]? = some a → ∃ v, cs[o + j]? = some v ∧ RepA w C v a) {K : Val → List AObj → Prop} (hk : aCells i as (fun v => K v σ)) :
    OKS P (Instr.loadAt t (.pointer (some ⟨b, o, none⟩))) w C (fun v => K v σ) := by
  obtain ⟨info, d, z, h1, h2, h3, h4, h6, h7, h8, h9, h10, h11, h12⟩ := ti_parts (HT.ti t i hi)
  have hc : ∀ j a, as[j]? = some a → ∃ v, w.cell? ⟨b, o + j, none⟩ = some v ∧ RepA w C v a := fun j a ha => by
    obtain ⟨v, hv, hr⟩ := hr j a ha
    exact ⟨v, by simp [World.cell?, hh, hv], hr⟩
  unfold aCells at hk
  cases ha : i.agg with
  | true =>
    rw [ha] at hk
    simp only [cond_true] at hk
    split at hk
    · rename_i ys hy
      obtain ⟨g1, g2, g3⟩ := takeN_some hy
      have hval : ∀ j, j < i.sz → ∃ v, w.cell? ⟨b, o + j, none⟩ = some v := fun j hj => by
        obtain ⟨v, hv, _⟩ := hc j _ (List.getElem?_eq_getElem (show j < as.length by omega))
        exact ⟨v, hv⟩
      let vs : List Value := (List.range i.sz).map fun j => (w.cell? ⟨b, o + j, none⟩).getD undef
      have hvs : ∀ j v, vs[j]? = some v → j < i.sz ∧ w.cell? ⟨b, o + j, none⟩ = some v := fun j v hv => by
        simp only [vs, List.getElem?_map] at hv
        by_cases hj : j < i.sz
        · rw [List.getElem?_range hj] at hv
          obtain ⟨u, hu⟩ := hval j hj
          simp [hu] at hv
          exact ⟨hj, by rw [hu, hv]⟩
        · rw [List.getElem?_eq_none (by simpa using hj)] at hv; cases hv
      refine OKS.same (v := .agg vs.toArray) (run_loadAt_mid (P := P) w b o t vs d (fun j v hv => (hvs j v hv).2) h2 (by rw [h11, ha]) ?_) hk (.agg _ _ ⟨?_, fun j v a hv ha => ?_⟩)
      · rw [h1]; simp [vs, h4]
      · simp [vs, g1]
      · obtain ⟨hj, hcell⟩ := hvs j v (by simpa using hv)
        rw [g3, List.getElem?_take, if_pos hj] at ha
        obtain ⟨u, hu, hr⟩ := hc j a ha
        rw [hu] at hcell; cases hcell; exact hr
    · exact hk.elim
  | false =>
    rw [ha] at hk
    simp only [cond_false] at hk
    split at hk
    · rename_i a l
      obtain ⟨v, hcell, hrv⟩ := hc 0 a rfl
      have hag : (isAgg t).run P w = .ok false w := by
        unfold isAgg
        rw [Sem.run_bind, run_underlying h2 w]
        rw [ha] at h11
        cases d <;> simp_all [TypeDesc.isRow]
      refine OKS.same (v := v) ?_ hk (.c _ _ hrv)
      simp only [Nat.add_zero] at hcell
      simp [Instr.loadAt, Instr.sureAddr, loadVar, hag, hcell]
    · exact hk.elim

include HT in
theorem ok_loadS {w : World} {C : Cz} {σ : List AObj} (hI : Inv w C σ) {t : Nat} {u : Value} {x : Val} (hx : RepV w C u x) {K : Val → List AObj → Prop} (hk : aLoad T σ t x K) :
    OKS P (Instr.loadAt t u) w C (fun v => K v σ) := by
  unfold aLoad at hk
  split at hk
  · exact hk.elim
  rename_i i hi
  split at hk
  · rename_i o off
    obtain ⟨_, _, hx⟩ | _ := hx
    cases hx with
    | ptr _ _ b e he hr hb =>
    split at hk
    · rename_i cells ho
      obtain ⟨_, b', cs, ty, g1, g2, g3⟩ := hI.ok o _ e ho he
      rw [hb] at g1; cases g1
      exact ok_cells HT t i hi hI b off cs ty (0, 0) g2 (g3.drop off) hk
    · rename_i r cells ho
      obtain ⟨_, b', cs, ty, fz, g1, g2, g3, g4⟩ := hI.ok o _ e ho he
      rw [hb] at g1; cases g1
      refine ok_cells' HT t i hi hI b off cs ty fz g3 (fun j a ha => ?_) hk
      rw [List.getElem?_map, List.getElem?_drop] at ha
      cases hc : cells[off + j]? with
      | none => rw [hc] at ha; cases ha
      | some x =>
        rw [hc] at ha; cases ha
        obtain ⟨v, h1, h2⟩ := g4 _ x hc
        exact ⟨v, h1, .d _ _ h2⟩
    · exact hk.elim
  · rename_i r cells
    obtain ⟨_, _, hx⟩ | _ := hx
    obtain ⟨_, _, hx⟩ | _ := hx
    cases hx with
    | rp _ b o _ cs e fz vs hr hh hcell hrep =>
    refine ok_cells' HT t i hi hI b o cs e fz hh (fun j a ha => ?_) hk
    rw [List.getElem?_map] at ha
    cases hc : cells[j]? with
    | none => rw [hc] at ha; cases ha
    | some x =>
      rw [hc] at ha; cases ha
      exact ⟨vs j, hcell j (List.getElem?_eq_some_iff.1 hc).1, .d _ _ (hrep j x hc)⟩
  · exact hk.elim

include HT in
theorem ok_load {w : World} {C : Cz} {σ : List AObj} (hI : Inv w C σ) {t : Nat} {u : Value} {x : Val} (hx : RepV w C u x) {K : Val → List AObj → Prop} (hk : aLoad T σ t x K) :
    OK1 P (Instr.loadAt t u) w C σ K := (ok_loadS HT hI hx hk).ok1 hI

/-! store -/
def splice {α : Type} : Nat → List α → List α → Option (List α)
  | 0, [], cs => some cs
  | 0, y :: ys, _ :: cs => match splice 0 ys cs with | some r => some (y :: r) | none => none
  | 0, _ :: _, [] => none
  | n + 1, ys, c :: cs => match splice n ys cs with | some r => some (c :: r) | none => none
  | _ + 1, _, [] => none

theorem splice_some {α : Type} : ∀ {n : Nat} {ys cs r : List α}, splice n ys cs = some r → n + ys.length ≤ cs.length ∧ r = cs.take n ++ ys ++ cs.drop (n + ys.length)
  | 0, [], cs, r, h => by simp [splice] at h; simp [h]
  | 0, y :: ys, [], r, h => by simp [splice] at h
  | 0, y :: ys, c :: cs, r, h => by
    simp only [splice] at h
    split at h
    · rename_i r' hr
      obtain ⟨h1, h2⟩ := splice_some hr
      cases h
      simp at h1 h2 ⊢
      exact ⟨h1, h2⟩
    · cases h
  | n + 1, ys, [], r, h => by simp [splice] at h
  | n + 1, ys, c :: cs, r, h => by
    simp only [splice] at h
    split at h
    · rename_i r' hr
      obtain ⟨h1, h2⟩ := splice_some hr
      cases h
      simp only [List.length_cons, List.take_succ_cons, List.cons_append, List.cons.injEq, true_and]
      refine ⟨by omega, ?_⟩
      rw [h2, show n + 1 + ys.length = (n + ys.length) + 1 by omega, List.drop_succ_cons]
    · cases h

def natEq : Nat → Nat → Bool := Nat.beq
theorem natEq_eq {a b : Nat} (h : natEq a b = true) : a = b := Nat.eq_of_beq_eq_true h

def aStore (T : Tab) (σ : List AObj) (t : Nat) (x y : Val) (K : List AObj → Prop) : Prop :=
  match T.ti t with
  | none => False
  | some i => match x, y.cells with
    | .c (.ptr o off), some ys => bif natEq ys.length i.sz then (match σ[o]? with
      | some (.var cells) => match splice off ys cells with
        | some cells' => K (σ.set o (.var cells'))
        | none => False
      | _ => False) else False
    | _, _ => False

theorem RepL.splice {w : World} {C : Cz} {vs us : List Value} {as bs : List AV} (h : RepL w C vs as) (g : RepL w C us bs) (n : Nat) (hn : n + bs.length ≤ as.length) :
    RepL w C (vs.take n ++ us ++ vs.drop (n + us.length)) (as.take n ++ bs ++ as.drop (n + bs.length)) := by
  have l1 := h.1; have l2 := g.1
  refine ⟨by simp; omega, fun i v a hv ha => ?_⟩
  by_cases c1 : i < n
  · rw [List.append_assoc, List.getElem?_append_left (by simp; omega), List.getElem?_take, if_pos c1] at hv ha
    exact h.2 i v a hv ha
  · by_cases c2 : i < n + bs.length
    · rw [List.append_assoc, List.getElem?_append_right (by simp; omega), List.getElem?_append_left (by simp; omega)] at hv ha
      simp only [List.length_take] at hv ha
      rw [show min n vs.length = n by omega] at hv
      rw [show min n as.length = n by omega] at ha
      exact g.2 (i - n) v a hv ha
    · rw [List.getElem?_append_right (by simp; omega), List.getElem?_drop] at hv ha
      simp only [List.length_append, List.length_take] at hv ha
      rw [show n + us.length + (i - (min n vs.length + us.length)) = i by omega] at hv
      rw [show n + bs.length + (i - (min n as.length + bs.length)) = i by omega] at ha
      exact h.2 i v a hv ha

include HT in
theorem ok_store {w : World} {C : Cz} {σ : List AObj} (hI : Inv w C σ) {t : Nat} {u v : Value} {x y : Val} (hx : RepV w C u x) (hy : RepV w C v y) {K : List AObj → Prop} (hk : aStore T σ t x y K) :
    ∃ w' C' σ', (Instr.storeAt t u v).run P w = .ok () w' ∧ K σ' ∧ Inv w' C' σ' ∧ Ext w C σ w' C' σ' := by
  unfold aStore at hk
  split at hk
  · exact hk.elim
  rename_i i hi
  obtain ⟨info, d, z, h1, h2, h3, h4, h6, h7, h8, h9, h10, h11, h12⟩ := ti_parts (HT.ti t i hi)
  split at hk
  · rename_i o off ys hys
    cases hn : natEq ys.length i.sz with
    | false => rw [hn] at hk; exact hk.elim
    | true =>
    rw [hn] at hk
    simp only [cond_true] at hk
    have hlen := natEq_eq hn
    obtain ⟨_, _, hx⟩ | _ := hx
    cases hx with
    | ptr _ _ b e he hr hb =>
    split at hk
    · rename_i cells ho
      split at hk
      · rename_i cells' hsp
        obtain ⟨s1, s2⟩ := splice_some hsp
        obtain ⟨gr, b', cs, ty, g1, g2, g3⟩ := hI.ok o _ e ho he
        rw [hb] at g1; cases g1
        have hyr := cells_rep hy hys
        have hsz : v.cells.size = i.sz := by have := hyr.1; simp at this; omega
        have hl := g3.1
        simp at hl
        have hst := run_storeCells_at P b off ty v.cells.toList 0 cs w g2 (by have := hyr.1; simp at this ⊢; omega) hyr.oneCell
        simp only [Nat.add_zero] at hst
        refine ⟨w.setRow b (cs.toList.take off ++ v.cells.toList ++ cs.toList.drop (off + v.cells.toList.length)).toArray, C.upd o e, _, ?_, hk, ?_⟩
        · simp [Instr.storeAt, Instr.sureAddr, storeVar, sizeOf, typeInfo, h1, h4, hsz, hst]
        · have hold : ∀ b', b' < w.heap.size → e.b ≠ some b' → (w.setRow b (cs.toList.take off ++ v.cells.toList ++ cs.toList.drop (off + v.cells.toList.length)).toArray).heap[b']? = w.heap[b']? :=
            fun b' _ hne => setRow_other w b b' _ (fun e1 => hne (by rw [hb, e1]))
          obtain ⟨u1, u2⟩ := hI.upd (o' := .var cells') (e' := e) ho he rfl (by simp [World.setRow]) (.refl e) hold (fun b' hb' => .inl hb') (fun hc => ⟨gr, b, _, ty, hb, setRow_heap w b cs _ ty (0, 0) g2, by
            have := (g3.mono hc).splice (hyr.mono hc) off s1
            rw [s2]
            simpa using this⟩)
          exact ⟨u2, Ext.upd hI ho he rfl rfl rfl rfl (by simp [World.setRow]) u1 hold (fun b' hb' => .inl hb')⟩
      · exact hk.elim
    · exact hk.elim
  · exact hk.elim

end
end Go.Proofs.Ytdhkopangbgehaa.E
