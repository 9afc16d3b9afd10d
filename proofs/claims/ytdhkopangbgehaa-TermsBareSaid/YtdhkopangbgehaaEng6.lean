/- The engine, part 6: further operations (no calls): what they do to data, and that the machine does the same. No conditions. -/
import Derived.Test.YtdhkopangbgehaaEng5
set_option linter.unusedVariables false
set_option linter.unusedSimpArgs false
namespace Go.Proofs.Ytdhkopangbgehaa.E
open Go

section
variable {P : Program} {T : Tab} (HT : TabOk P T)

/-! ### A new variable -/
def aAlloc (T : Tab) (σ : List AObj) (t : Nat) (K : Val → List AObj → Prop) : Prop :=
  match T.ti t with
  | some i => K (.c (.ptr σ.length 0)) (σ ++ [.var (i.zero.map .d)])
  | none => False

include HT in
theorem ok_alloc {w : World} {C : Cz} {σ : List AObj} (hI : Inv w C σ) {t : Nat} {K : Val → List AObj → Prop} (hk : aAlloc T σ t K) :
    OK1 P (Instr.alloc t true (.tuple #[])) w C σ K := by
  unfold aAlloc at hk
  split at hk
  · rename_i i hi
    obtain ⟨info, d, z, h1, h2, h3, h4, h6, h7, h8, h9, h10, h11, h12⟩ := ti_parts (HT.ti t i hi)
    obtain ⟨C', g1, g2, g3⟩ := step_var hI z.cells t _ (allZ_rep (w := w) (C := C) h9)
    refine ⟨.pointer (some ⟨w.heap.size, 0, none⟩), _, C', _, _, ?_, hk, g1, g2, .c _ _ g3⟩
    simp [Instr.alloc, zeroValue, typeInfo, h1, h8, newVar, newRow]
  · exact hk.elim

def aBox (σ : List AObj) (x : Val) (K : Val → List AObj → Prop) : Prop :=
  match x.cells with
  | some cs => K (.c (.ptr σ.length 0)) (σ ++ [.var cs])
  | none => False

theorem ok_box {w : World} {C : Cz} {σ : List AObj} (hI : Inv w C σ) {t : Nat} {u : Value} {x : Val} (hx : RepV w C u x) {K : Val → List AObj → Prop} (hk : aBox σ x K) :
    OK1 P (Instr.box t u) w C σ K := by
  unfold aBox at hk
  split at hk
  · rename_i cs hc
    obtain ⟨C', g1, g2, g3⟩ := step_var hI u.cells t _ (cells_rep hx hc)
    refine ⟨.pointer (some ⟨w.heap.size, 0, none⟩), _, C', _, _, ?_, hk, g1, g2, .c _ _ g3⟩
    simp [Instr.box, newVar, newRow]
  · exact hk.elim

/-! ### Structs and arrays by value -/
theorem fill_step (off : Nat) : ∀ (ys : List Value) (k : Nat) (cs : Array Value), off + k + ys.length ≤ cs.size →
    ((ys.zipIdx k).foldl (fun cs (c, j) => cs.setIfInBounds (off + j) c) cs).toList = cs.toList.take (off + k) ++ ys ++ cs.toList.drop (off + k + ys.length)
  | [], k, cs, _ => by simp
  | y :: ys, k, cs, h => by
    simp only [List.length_cons] at h
    simp only [List.zipIdx_cons, List.foldl_cons]
    rw [fill_step off ys (k + 1) (cs.setIfInBounds (off + k) y) (by simp; omega)]
    have := list_seg_step cs.toList (off + k) y ys (by simp; omega)
    simpa [Array.toList_setIfInBounds, Nat.add_assoc] using this

def aFill (T : Tab) (place : Nat → Option (Nat × Nat)) : List (Nat × Val) → List AV → (List AV → Prop) → Prop
  | [], cells, K => K cells
  | (f, x) :: r, cells, K => match place f, x.cells with
    | some (off, sz), some ys => bif natEq ys.length sz then (match splice off ys cells with
      | some cells' => aFill T place r cells' K
      | none => False) else False
    | _, _ => False

/-- v has the cells that x tells. -/
def RepK (w : World) (C : Cz) (v : Value) (x : Val) : Prop := ∀ cs, x.cells = some cs → RepL w C v.cells.toList cs
theorem RepV.k {w : World} {C : Cz} {v : Value} {x : Val} (h : RepV w C v x) : RepK w C v x := fun _ hx => cells_rep h hx

theorem ok_fill {w : World} {C : Cz} (place place' : Nat → Option (Nat × Nat)) (hp : ∀ f y, place f = some y → place' f = some y) :
    ∀ (parts : List (Nat × Value)) (ps : List (Nat × Val)), parts.length = ps.length → (∀ (i : Nat) p q, parts[i]? = some p → ps[i]? = some q → p.1 = q.1 ∧ RepK w C p.2 q.2) →
    ∀ (arr : Array Value) (cells : List AV), RepL w C arr.toList cells → ∀ (K : List AV → Prop), aFill T place ps cells K →
    ∃ arr' cells', Instr.fill place' arr parts = some arr' ∧ K cells' ∧ RepL w C arr'.toList cells'
  | [], [], _, _, arr, cells, hr, K, hk => ⟨arr, cells, rfl, hk, hr⟩
  | [], _ :: _, h, _, _, _, _, _, _ => by simp at h
  | _ :: _, [], h, _, _, _, _, _, _ => by simp at h
  | (i, v) :: parts, (f, x) :: ps, hl, hrep, arr, cells, hr, K, hk => by
    have h0 := hrep 0 _ _ rfl rfl
    obtain ⟨rfl, hv⟩ : i = f ∧ RepK w C v x := h0
    simp only [aFill] at hk
    split at hk
    · rename_i off sz ys hpl hys
      cases hn : natEq ys.length sz with
      | false => rw [hn] at hk; exact hk.elim
      | true =>
      rw [hn] at hk
      simp only [cond_true] at hk
      split at hk
      · rename_i cells' hsp
        obtain ⟨s1, s2⟩ := splice_some hsp
        have hyr := hv ys hys
        have hyl := hyr.1
        simp at hyl
        have hal := hr.1
        simp at hal
        have hsz : v.cells.size = sz := by have := natEq_eq hn; omega
        have hf := fill_step off v.cells.toList 0 arr (by simp; omega)
        simp only [Nat.add_zero] at hf
        have hr' : RepL w C (v.cells.zipIdx.foldl (fun cs (c, j) => cs.setIfInBounds (off + j) c) arr).toList cells' := by
          rw [← Array.foldl_toList, Array.toList_zipIdx, hf, s2]
          exact hr.splice hyr off s1
        obtain ⟨arr', cells'', g1, g2, g3⟩ := ok_fill place place' hp parts ps (by simpa using hl) (fun i p q h1 h2 => hrep (i + 1) p q (by simpa using h1) (by simpa using h2)) _ cells' hr' K hk
        refine ⟨arr', cells'', ?_, g2, g3⟩
        rw [Instr.fill, hp _ _ hpl]
        simp only
        rw [if_neg (by simp; omega)]
        exact g1
      · exact hk.elim
    · exact hk.elim

/-- The place and size of a struct's fields. -/
def fplace (T : Tab) (i : TI) (f : Nat) : Option (Nat × Nat) := match i.flds[f]? with
  | some (off, ty) => match T.ti ty with | some j => some (off, j.sz) | none => none
  | none => none

def aBuild (T : Tab) (t : Nat) (ps : List (Nat × Val)) (K : Val → Prop) : Prop :=
  match T.ti t with
  | some i => match i.k with
    | .strct => aFill T (fplace T i) ps (i.zero.map .d) (fun cs => K (.agg cs))
    | .arr n e => match T.ti e with
      | some j => aFill T (fun k => some (k * j.sz, j.sz)) ps (i.zero.map .d) (fun cs => K (.agg cs))
      | none => False
    | _ => False
  | none => False

theorem mapM_some {α β : Type} (g : α → Option β) : ∀ (l : List α), (∀ x, x ∈ l → (g x).isSome = true) → ∃ r, l.mapM g = some r ∧ ∀ (k : Nat) x, l[k]? = some x → r[k]? = g x
  | [], _ => ⟨[], by simp, fun k x h => by simp at h⟩
  | x :: l, h => by
    obtain ⟨r, h1, h2⟩ := mapM_some g l (fun y hy => h y (by simp [hy]))
    obtain ⟨y, hy⟩ := Option.isSome_iff_exists.1 (h x (by simp))
    refine ⟨y :: r, by simp [hy, h1], fun k z hz => ?_⟩
    cases k with
    | zero => simp at hz ⊢; subst hz; exact hy.symm
    | succ k => simp at hz ⊢; exact h2 k z hz

theorem kind_strct {d : TypeDesc} (h : kindOk .strct d = true) : ∃ fs, d = .struct fs := by
  cases d <;> first | (cases h; done) | exact ⟨_, rfl⟩
theorem kind_arr {n e : Nat} {d : TypeDesc} (h : kindOk (.arr n e) d = true) : d = .array n e := by
  cases d <;> first | (cases h; done) | (simp [kindOk] at h; obtain ⟨rfl, rfl⟩ := h; rfl)
theorem kind_sl {e : Nat} {d : TypeDesc} (h : kindOk (.sl e) d = true) : d = .slice e := by
  cases d <;> first | (cases h; done) | (simp [kindOk] at h; subst h; rfl)

/-- Pairs of numbers and values, as pairs of numbers and data. -/
def RepP (w : World) (C : Cz) (parts : List (Nat × Value)) (ps : List (Nat × Val)) : Prop :=
  parts.length = ps.length ∧ ∀ (i : Nat) p q, parts[i]? = some p → ps[i]? = some q → p.1 = q.1 ∧ RepK w C p.2 q.2

include HT in
theorem ok_build {w : World} {C : Cz} {σ : List AObj} (hI : Inv w C σ) {t : Nat} {parts : Array (Nat × Value)} {ps : List (Nat × Val)} (hp : RepP w C parts.toList ps) {K : Val → List AObj → Prop}
    (hk : aBuild T t ps (fun x => K x σ)) : OK1 P (Instr.build t parts) w C σ K := by
  unfold aBuild at hk
  split at hk
  · rename_i i hi
    obtain ⟨info, d, z, h1, h2, h3, h4, h6, h7, h8, h9, h10, h11, h12⟩ := ti_parts (HT.ti t i hi)
    split at hk
    · rename_i hik
      rw [hik] at h3
      obtain ⟨fs, rfl⟩ := kind_strct h3
      obtain ⟨f1, f2⟩ := h7 fs hik rfl
      have hall : ∀ x, x ∈ fs.toList → ((P.info? x.type).map fun j => (x.offset, j.size)).isSome = true := fun x hx => by
        obtain ⟨k, hk⟩ := List.getElem?_of_mem hx
        have hlt : k < i.flds.length := by rw [f2]; simpa using (List.getElem?_eq_some_iff.1 hk).1
        obtain ⟨fd, j, g1, g2, g3, g4, g5⟩ := fldsOk_get i.flds 0 f1 k i.flds[k].1 i.flds[k].2 (by rw [List.getElem?_eq_getElem hlt])
        simp only [Nat.zero_add] at g1
        rw [Array.getElem?_toList, g1] at hk; cases hk
        rw [g3, g4]; rfl
      obtain ⟨places, hpl, hpl2⟩ := mapM_some (fun f : Field => (P.info? f.type).map fun j => (f.offset, j.size)) fs.toList hall
      have hplace : ∀ f y, fplace T i f = some y → (places.toArray[f]?) = some y := fun f y hy => by
        unfold fplace at hy
        split at hy
        · rename_i off ty hfl
          split at hy
          · rename_i j hj
            cases hy
            obtain ⟨fd, jj, g1, g2, g3, g4, g5⟩ := fldsOk_get i.flds 0 f1 f off ty hfl
            simp only [Nat.zero_add] at g1
            obtain ⟨info', _, _, k1, _, _, k4, _⟩ := ti_parts (HT.ti ty j hj)
            have := hpl2 f fd (by rw [Array.getElem?_toList]; exact g1)
            simp only [List.getElem?_toArray]
            rw [this, g3, k1, g2]
            simp [k4]
          · cases hy
        · cases hy
      obtain ⟨arr', cells', q1, q2, q3⟩ := ok_fill (T := T) (fplace T i) (fun x => places.toArray[x]?) hplace parts.toList ps hp.1 hp.2 z.cells (i.zero.map .d) (allZ_rep h9) _ hk
      refine OK1.same hI (v := .agg arr') (run_build w t parts arr' ?_) q2 (.agg _ _ q3)
      unfold Program.built
      rw [h1, h2]
      simp only [h8, hpl]
      exact q1
    · rename_i n e hik
      rw [hik] at h3
      have := kind_arr h3
      subst this
      split at hk
      · rename_i j hj
        obtain ⟨info', _, _, k1, _, _, k4, _⟩ := ti_parts (HT.ti e j hj)
        obtain ⟨arr', cells', q1, q2, q3⟩ := ok_fill (T := T) (fun k => some (k * j.sz, j.sz)) (fun k => some (k * info'.size, info'.size)) (fun f y hy => by rw [k4]; exact hy) parts.toList ps hp.1 hp.2 z.cells (i.zero.map .d) (allZ_rep h9) _ hk
        refine OK1.same hI (v := .agg arr') (run_build w t parts arr' ?_) q2 (.agg _ _ q3)
        unfold Program.built
        rw [h1, h2]
        simp only [h8, k1]
        exact q1
      · exact hk.elim
    · exact hk.elim
  · exact hk.elim

/-! ### A slice of what is told -/
def zcells (j : TI) (n : Nat) : List AV := (List.range n).map fun k => .d (j.zero.getD (k % j.sz) .nilp)

def chunk {α : Type} (sz : Nat) : Nat → List α → Option (List (List α))
  | 0, [] => some []
  | 0, _ :: _ => none
  | n + 1, l => match takeN sz l with
    | some r => match chunk sz n (l.drop sz) with | some rs => some (r :: rs) | none => none
    | none => none

theorem chunk_some {α : Type} {sz : Nat} : ∀ {n : Nat} {l : List α} {rs : List (List α)}, chunk sz n l = some rs → rs.length = n ∧ l.length = n * sz ∧ (∀ r, r ∈ rs → r.length = sz) ∧
    ∀ (j i : Nat) (r : List α) (x : α), rs[j]? = some r → r[i]? = some x → l[j * sz + i]? = some x
  | 0, [], rs, h => by simp [chunk] at h; subst h; simp
  | 0, _ :: _, rs, h => by simp [chunk] at h
  | n + 1, l, rs, h => by
    simp only [chunk] at h
    split at h
    · rename_i r hr
      split at h
      · rename_i rs' hrs
        cases h
        obtain ⟨t1, t2, t3⟩ := takeN_some hr
        obtain ⟨c1, c2, c3, c4⟩ := chunk_some hrs
        simp only [List.length_drop] at c2
        refine ⟨by simp [c1], by rw [Nat.succ_mul]; omega, fun x hx => ?_, fun j i r' x h1 h2 => ?_⟩
        · rcases List.mem_cons.1 hx with rfl | hx
          · exact t1
          · exact c3 x hx
        · cases j with
          | zero =>
            simp at h1; subst h1
            rw [t3, List.getElem?_take] at h2
            split at h2
            · simpa using h2
            · cases h2
          | succ j =>
            simp at h1
            have := c4 j i r' x h1 h2
            rw [List.getElem?_drop] at this
            rw [Nat.succ_mul, show j * sz + sz + i = sz + (j * sz + i) by omega]
            exact this
      · cases h
    · cases h

/-- The parts are frozen, one behind the other. -/
def aParts (ρ : Nat) (j : TI) : List (Nat × Val) → List AObj → (List (Nat × Val) → List AObj → Prop) → Prop
  | [], σ, K => K [] σ
  | (f, x) :: r, σ, K => match x.cells with
    | some ys => frzL ρ σ ys j.nrm (fun ds σ' => aParts ρ j r σ' (fun qs σ'' => K ((f, .agg (ds.map .d)) :: qs) σ''))
    | none => False

theorem aParts_ok {w : World} (ρ : Nat) (j : TI) : ∀ (ps : List (Nat × Val)) {C : Cz} {σ : List AObj} (hI : Inv w C σ) (parts : List (Nat × Value)), RepP w C parts ps → ∀ {K : List (Nat × Val) → List AObj → Prop}, aParts ρ j ps σ K →
    ∃ C' qs σ', K qs σ' ∧ CzLe w C w C' ∧ Inv w C' σ' ∧ Ext w C σ w C' σ' ∧ RepP w C' parts qs
  | [], C, σ, hI, parts, hp, K, hk => ⟨C, [], σ, hk, .refl w C, hI, .refl w C σ, hp⟩
  | (f, x) :: ps, C, σ, hI, [], hp, K, hk => by have := hp.1; simp at this
  | (f, x) :: ps, C, σ, hI, (i, v) :: parts, hp, K, hk => by
    have h0 := hp.2 0 _ _ rfl rfl
    obtain ⟨rfl, hv⟩ : i = f ∧ RepK w C v x := h0
    simp only [aParts] at hk
    split at hk
    · rename_i ys hys
      obtain ⟨C1, ds, σ1, k1, l1, I1, E1, n1, r1⟩ := frzL_ok ρ hI (hv ys hys) hk
      have hp1 : RepP w C1 parts ps := ⟨by have := hp.1; simpa using this, fun k p q h1 h2 => by
        obtain ⟨g1, g2⟩ := hp.2 (k + 1) p q (by simpa using h1) (by simpa using h2)
        exact ⟨g1, fun cs hcs => (g2 cs hcs).mono l1⟩⟩
      obtain ⟨C2, qs, σ2, k2, l2, I2, E2, p2⟩ := aParts_ok ρ j ps I1 parts hp1 k1
      refine ⟨C2, _, σ2, k2, l1.trans l2, I2, E1.trans E2, by have := p2.1; simpa using this, fun k p q h1 h2 => ?_⟩
      cases k with
      | zero =>
        simp at h1 h2; subst h1; subst h2
        refine ⟨rfl, fun cs hcs => ?_⟩
        simp [Val.cells] at hcs; subst hcs
        exact RepL.ofD n1 (fun k u y h1 h2 => (r1 k u y h1 h2).mono l2.rg)
      | succ k => simp at h1 h2; exact p2.2 k p q h1 h2
    · exact hk.elim

def aBuildSlice (T : Tab) (ρ : Nat) (σ : List AObj) (t len : Nat) (ps : List (Nat × Val)) (K : Val → List AObj → Prop) : Prop :=
  match T.ti t with
  | some i => match i.k with
    | .sl e => match T.ti e with
      | some j => bif natEq j.sz 0 || decide (1000 < len) || decide (1000 < j.sz) then False else (match len, ps with
        | 0, [] => K (.c .emp) σ
        | 0, _ :: _ => False
        | l + 1, ps => aParts ρ j ps σ (fun qs σ' => aFill T (fun k => some (k * j.sz, j.sz)) qs (zcells j ((l + 1) * j.sz)) (fun cs => match allD cs with
          | some ds => match chunk j.sz (l + 1) ds with
            | some rows => K (.c (.d (.sl ρ j.sz rows))) σ'
            | none => False
          | none => False)))
      | none => False
    | _ => False
  | none => False

theorem zcells_rep {w : World} {C : Cz} {z : Value} {j : TI} (hz : allZ j.zero z.cells.toList = true) (hs : z.cells.size = j.sz) (h0 : 0 < j.sz) (n : Nat) :
    RepL w C ((Array.range n).map (z.cells[· % z.cells.size]!)).toList (zcells j n) := by
  have hr := allZ_rep (w := w) (C := C) hz
  have hl := hr.1
  simp at hl
  refine ⟨by simp [zcells], fun i v a h1 h2 => ?_⟩
  have hi : i < n := by have := (List.getElem?_eq_some_iff.1 h2).1; simpa [zcells] using this
  have e1 : v = z.cells[i % z.cells.size]! := by
    simp [hi] at h1; exact h1.symm
  have e2 : a = .d (j.zero.getD (i % j.sz) .nilp) := by
    simp [zcells, hi] at h2; rw [← h2]; simp
  · have hlt : i % j.sz < j.sz := Nat.mod_lt _ h0
    rw [e1, e2, hs]
    have g1 : z.cells.toList[i % j.sz]? = some z.cells[i % j.sz]! := by
      rw [Array.getElem?_toList, Array.getElem?_eq_getElem (by omega)]
      simp [hs, hlt]
    have g2 : (j.zero.map AV.d)[i % j.sz]? = some (.d (j.zero.getD (i % j.sz) .nilp)) := by
      rw [List.getElem?_map, List.getElem?_eq_getElem (by omega), List.getD_eq_getElem?_getD, List.getElem?_eq_getElem (by omega)]; rfl
    exact hr.2 _ _ _ g1 g2

end
end Go.Proofs.Ytdhkopangbgehaa.E
