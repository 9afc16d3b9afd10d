/- Which definitions are needed: a relation, and what marks them. No conditions. -/
import Derived.Test.YthmbncehoblgpaaGreatDoorDf1
import Derived.Test.YthmbncehoblgpaaGreatDoorFr2
set_option linter.unusedVariables false
set_option linter.unusedSimpArgs false
namespace Go.Proofs.YthmbncehoblgpaaGreatDoor.E
open Go

/-- No two definitions have one name. -/
def Uniq (l : List Df) : Prop := ∀ (i j : Nat) (d e : Df), l[i]? = some d → l[j]? = some e → d.name = e.name → i = j
theorem Uniq.fresh {l : List Df} (h : Uniq l) {i : Nat} {d : Df} (hd : l[i]? = some d) : nix d.name 0 (l.take i) = 0 := by
  refine nix_zero.2 fun e he hn => ?_
  obtain ⟨j, hj⟩ := List.getElem?_of_mem he
  rw [List.getElem?_take] at hj
  split at hj
  · have := h j i e d hj hd hn; omega
  · cases hj
theorem soundF_uniq {l : List Df} (hb : ∀ j, j < l.length → badAt l j = false) : Uniq l := by
  have key : ∀ (i j : Nat) (d e : Df), i < j → l[i]? = some d → l[j]? = some e → d.name = e.name → False := fun i j d e hij hi hj hn => by
    have := hb j (List.getElem?_eq_some_iff.1 hj).1
    rw [badAt_nix hj] at this
    simp only [Bool.or_eq_false_iff, Bool.not_eq_false', decide_eq_true_eq, nix_zero] at this
    refine this.2 d (List.mem_of_getElem? (i := i) ?_) hn
    rw [List.getElem?_take, if_pos hij]; exact hi
  intro i j d e hi hj hn
  rcases Nat.lt_trichotomy i j with h | h | h
  · exact (key i j d e h hi hj hn).elim
  · exact h
  · exact (key j i e d h hj hi hn.symm).elim
theorem Uniq.nix {l : List Df} (h : Uniq l) {i : Nat} {d : Df} (hd : l[i]? = some d) : E.nix d.name 0 l = i + 1 := by
  have := nix_at (k := 0) hd rfl (fun j e hj he hn => by have := h j i e d he hd hn; omega)
  omega

/-- The definition at i has the name of that at j, ahead of it, free. -/
def Succ (l : List Df) (i j : Nat) : Prop := j < i ∧ ∃ d e, l[i]? = some d ∧ l[j]? = some e ∧ e.name ∈ freeS d.tm
inductive Reach (l : List Df) (k : Nat) : Nat → Prop where
  | base : Reach l k k
  | step {i j : Nat} (h : Reach l k i) (s : Succ l i j) : Reach l k j
theorem Reach.trans {l : List Df} {a b c : Nat} (h : Reach l a b) (g : Reach l b c) : Reach l a c := by
  induction g with
  | base => exact h
  | step _ s ih => exact ih.step s
theorem Reach.le {l : List Df} {a b : Nat} (h : Reach l a b) : b ≤ a := by
  induction h with
  | base => exact Nat.le_refl _
  | step _ s ih => have := s.1; omega
open Classical in
noncomputable def isR (l : List Df) (k j : Nat) : Bool := decide (Reach l k j)
theorem isR_iff {l : List Df} {k j : Nat} : isR l k j = true ↔ Reach l k j := by simp [isR]
noncomputable def needB (l : List Df) (k : Nat) : List Bool := (List.range l.length).map (isR l k)
def brows (m : List Bool) : List (List DV) := m.map fun b => [.bool b]
theorem brows_len (m : List Bool) : (brows m).length = m.length := by simp [brows]
theorem brows_get {m : List Bool} {i : Nat} {row : List DV} (h : (brows m)[i]? = some row) : ∃ b, m[i]? = some b ∧ row = [.bool b] := by
  simp only [brows, List.getElem?_map, Option.map_eq_some_iff] at h
  obtain ⟨b, h1, h2⟩ := h
  exact ⟨b, h1, h2.symm⟩
theorem brows_set (m : List Bool) (i : Nat) (b : Bool) : (brows m).set i [.bool b] = brows (m.set i b) := by simp [brows, List.map_set]

/-- What marking from i on does. -/
structure Marked (l : List Df) (i : Nat) (m m' : List Bool) : Prop where
  len : m'.length = m.length
  mono : ∀ j : Nat, m[j]? = some true → m'[j]? = some true
  self : m'[i]? = some true
  new : ∀ j : Nat, m'[j]? = some true → m[j]? = some true ∨ Reach l i j
  closed : ∀ j : Nat, m'[j]? = some true → m[j]? = some true ∨ ∀ s, Succ l j s → m'[s]? = some true
/-- While the names free in the definition at i are gone through. -/
structure Marking (l : List Df) (i : Nat) (names : List ByteArray) (m m' : List Bool) : Prop where
  len : m'.length = m.length
  mono : ∀ j : Nat, m[j]? = some true → m'[j]? = some true
  self : m'[i]? = some true
  new : ∀ j : Nat, m'[j]? = some true → m[j]? = some true ∨ Reach l i j
  closed : ∀ j : Nat, j ≠ i → m'[j]? = some true → m[j]? = some true ∨ ∀ s, Succ l j s → m'[s]? = some true
  some : ∀ (s : Nat) (e : Df), l[s]? = some e → s < i → e.name ∈ names → m'[s]? = some true
theorem Marking.start {l : List Df} {i : Nat} {m : List Bool} (hi : i < m.length) : Marking l i [] m (m.set i true) where
  len := by simp
  mono := fun j hj => by
    rw [List.getElem?_set]
    split
    · first | rfl | simp [hi]
    · exact hj
  self := by simp [hi]
  new := fun j hj => by
    rw [List.getElem?_set] at hj
    split at hj
    · rename_i e; subst e; exact .inr .base
    · exact .inl hj
  closed := fun j hne hj => by
    rw [List.getElem?_set, if_neg (Ne.symm hne)] at hj
    exact .inl hj
  some := fun s e _ _ h => by cases h
theorem Marking.skip {l : List Df} {i : Nat} {ns : List ByteArray} {n : ByteArray} {m m' : List Bool} (h : Marking l i ns m m') (hn : ∀ (s : Nat) (e : Df), l[s]? = Option.some e → s < i → e.name ≠ n) : Marking l i (ns ++ [n]) m m' :=
  ⟨h.len, h.mono, h.self, h.new, h.closed, fun s e he hs hm => by
    rcases List.mem_append.1 hm with hm | hm
    · exact h.some s e he hs hm
    · simp at hm; exact (hn s e he hs hm).elim⟩
theorem Marking.call {l : List Df} (hu : Uniq l) {i j : Nat} {ns : List ByteArray} {d e : Df} {m m' m'' : List Bool} (h : Marking l i ns m m') (hd : l[i]? = Option.some d) (he : l[j]? = Option.some e) (hj : j < i) (hf : e.name ∈ freeS d.tm) (g : Marked l j m' m'') : Marking l i (ns ++ [e.name]) m m'' where
  len := g.len.trans h.len
  mono := fun q hq => g.mono q (h.mono q hq)
  self := g.mono i h.self
  new := fun q hq => by
    rcases g.new q hq with hq | hq
    · exact h.new q hq
    · exact .inr ((Reach.base.step ⟨hj, d, e, hd, he, hf⟩).trans hq)
  closed := fun q hne hq => by
    rcases g.closed q hq with hq' | hq'
    · rcases h.closed q hne hq' with h1 | h1
      · exact .inl h1
      · exact .inr fun s hs => g.mono s (h1 s hs)
    · exact .inr hq'
  some := fun s e' he' hs hm => by
    rcases List.mem_append.1 hm with hm | hm
    · exact g.mono s (h.some s e' he' hs hm)
    · simp at hm
      have := hu s j e' e he' he hm
      subst this
      exact g.self
theorem Marking.done {l : List Df} {i : Nat} {d : Df} {m m' : List Bool} (hd : l[i]? = Option.some d) (h : Marking l i (freeS d.tm) m m') : Marked l i m m' where
  len := h.len
  mono := h.mono
  self := h.self
  new := h.new
  closed := fun j hj => by
    by_cases e : j = i
    · subst e
      right
      rintro s ⟨h1, d', e, h2, h3, h4⟩
      rw [hd] at h2; cases h2
      exact h.some s e h3 h1 h4
    · exact h.closed j e hj
theorem Marked.old {l : List Df} {i : Nat} {m : List Bool} (h : m[i]? = some true) : Marked l i m m := ⟨rfl, fun _ h => h, h, fun _ h => .inl h, fun _ h => .inl h⟩
theorem Marked.all {l : List Df} {k : Nat} {m' : List Bool} (h : Marked l k (List.replicate l.length false) m') : m' = needB l k := by
  have hno : ∀ j : Nat, (List.replicate l.length false)[j]? ≠ some true := fun j hj => by
    have := List.mem_of_getElem? hj
    simp at this
  have hr : ∀ j, Reach l k j → m'[j]? = some true := fun j hj => by
    induction hj with
    | base => exact h.self
    | step _ s ih =>
      rcases h.closed _ ih with h1 | h1
      · exact (hno _ h1).elim
      · exact h1 _ s
  have hl : m'.length = l.length := by rw [h.len]; simp
  refine List.ext_getElem? fun j => ?_
  simp only [needB, List.getElem?_map]
  by_cases hj : j < l.length
  · rw [List.getElem?_range hj]
    simp only [Option.map_some]
    cases hb : m'[j]? with
    | none => rw [List.getElem?_eq_none_iff] at hb; omega
    | some b =>
      congr 1
      cases b with
      | true =>
        rcases h.new j hb with h1 | h1
        · exact (hno _ h1).elim
        · exact (isR_iff.2 h1).symm
      | false =>
        cases hc : isR l k j with
        | false => rfl
        | true => rw [hr j (isR_iff.1 hc)] at hb; cases hb
  · rw [List.getElem?_eq_none (by omega), List.getElem?_eq_none (by simpa using hj)]; rfl
theorem obj1 (l : List Df) : ∃ ξ, [AObj.var [.d (.sl 0 15 (drows l))], .mp KK.str 0 [], .var [.mp 1]] = [AObj.var [.d (.sl 0 15 (drows l))], .mp KK.str 0 (encL (hv 0 (l.take 0))), .var [.mp 1]] ++ ξ := ⟨[], by rw [enc0]; rfl⟩
end Go.Proofs.YthmbncehoblgpaaGreatDoor.E
