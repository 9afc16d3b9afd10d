/- Texts, merged: Df2, Fr3, Df3. No conditions. -/
import Derived.Test.YthmbncehoblgpaaGreatDoorGenX8
/- Which definitions are needed: a relation, and what marks them. No conditions. -/
set_option linter.unusedVariables false
set_option linter.unusedSimpArgs false
namespace Go.Proofs.YthmbncehoblgpaaGreatDoor.E
open Go

/-- No two definitions have one name. -/
def Uniq (l : List Df) : Prop := ∀ (i j : Nat) (d e : Df), l[i]? = some d → l[j]? = some e → d.name = e.name → i = j
theorem Uniq.fresh {l : List Df} (h : Uniq l) {i : Nat} {d : Df} (hd : l[i]? = some d) : nix d.name 0 (l.take i) = 0 := by
  refine nix_zero.2 fun e he hn => ?_
  obtain ⟨j, hj⟩ := List.getElem?_of_mem he
  rw [List.getElem?_take] at hj
  split at hj
  · have := h j i e d hj hd hn; omega
  · cases hj
theorem soundF_uniq {l : List Df} (hb : ∀ j, j < l.length → badAt l j = false) : Uniq l := by
  have key : ∀ (i j : Nat) (d e : Df), i < j → l[i]? = some d → l[j]? = some e → d.name = e.name → False := fun i j d e hij hi hj hn => by
    have := hb j (List.getElem?_eq_some_iff.1 hj).1
    rw [badAt_nix hj] at this
    simp only [Bool.or_eq_false_iff, Bool.not_eq_false', decide_eq_true_eq, nix_zero] at this
    refine this.2 d (List.mem_of_getElem? (i := i) ?_) hn
    rw [List.getElem?_take, if_pos hij]; exact hi
  intro i j d e hi hj hn
  rcases Nat.lt_trichotomy i j with h | h | h
  · exact (key i j d e h hi hj hn).elim
  · exact h
  · exact (key j i e d h hj hi hn.symm).elim
theorem Uniq.nix {l : List Df} (h : Uniq l) {i : Nat} {d : Df} (hd : l[i]? = some d) : E.nix d.name 0 l = i + 1 := by
  have := nix_at (k := 0) hd rfl (fun j e hj he hn => by have := h j i e d he hd hn; omega)
  omega

/-- The definition at i has the name of that at j, ahead of it, free. -/
def Succ (l : List Df) (i j : Nat) : Prop := j < i ∧ ∃ d e, l[i]? = some d ∧ l[j]? = some e ∧ e.name ∈ freeS d.tm
inductive Reach (l : List Df) (k : Nat) : Nat → Prop where
  | base : Reach l k k
  | step {i j : Nat} (h : Reach l k i) (s : Succ l i j) : Reach l k j
theorem Reach.trans {l : List Df} {a b c : Nat} (h : Reach l a b) (g : Reach l b c) : Reach l a c := by
  induction g with
  | base => exact h
  | step _ s ih => exact ih.step s
theorem Reach.le {l : List Df} {a b : Nat} (h : Reach l a b) : b ≤ a := by
  induction h with
  | base => exact Nat.le_refl _
  | step _ s ih => have := s.1; omega
open Classical in
noncomputable def isR (l : List Df) (k j : Nat) : Bool := decide (Reach l k j)
theorem isR_iff {l : List Df} {k j : Nat} : isR l k j = true ↔ Reach l k j := by simp [isR]
noncomputable def needB (l : List Df) (k : Nat) : List Bool := (List.range l.length).map (isR l k)
def brows (m : List Bool) : List (List DV) := m.map fun b => [.bool b]
theorem brows_len (m : List Bool) : (brows m).length = m.length := by simp [brows]
theorem brows_get {m : List Bool} {i : Nat} {row : List DV} (h : (brows m)[i]? = some row) : ∃ b, m[i]? = some b ∧ row = [.bool b] := by
  simp only [brows, List.getElem?_map, Option.map_eq_some_iff] at h
  obtain ⟨b, h1, h2⟩ := h
  exact ⟨b, h1, h2.symm⟩
theorem brows_set (m : List Bool) (i : Nat) (b : Bool) : (brows m).set i [.bool b] = brows (m.set i b) := by simp [brows, List.map_set]

/-- What marking from i on does. -/
structure Marked (l : List Df) (i : Nat) (m m' : List Bool) : Prop where
  len : m'.length = m.length
  mono : ∀ j : Nat, m[j]? = some true → m'[j]? = some true
  self : m'[i]? = some true
  new : ∀ j : Nat, m'[j]? = some true → m[j]? = some true ∨ Reach l i j
  closed : ∀ j : Nat, m'[j]? = some true → m[j]? = some true ∨ ∀ s, Succ l j s → m'[s]? = some true
/-- While the names free in the definition at i are gone through. -/
structure Marking (l : List Df) (i : Nat) (names : List ByteArray) (m m' : List Bool) : Prop where
  len : m'.length = m.length
  mono : ∀ j : Nat, m[j]? = some true → m'[j]? = some true
  self : m'[i]? = some true
  new : ∀ j : Nat, m'[j]? = some true → m[j]? = some true ∨ Reach l i j
  closed : ∀ j : Nat, j ≠ i → m'[j]? = some true → m[j]? = some true ∨ ∀ s, Succ l j s → m'[s]? = some true
  some : ∀ (s : Nat) (e : Df), l[s]? = some e → s < i → e.name ∈ names → m'[s]? = some true
theorem Marking.start {l : List Df} {i : Nat} {m : List Bool} (hi : i < m.length) : Marking l i [] m (m.set i true) where
  len := by simp
  mono := fun j hj => by
    rw [List.getElem?_set]
    split
    · first | rfl | simp [hi]
    · exact hj
  self := by simp [hi]
  new := fun j hj => by
    rw [List.getElem?_set] at hj
    split at hj
    · rename_i e; subst e; exact .inr .base
    · exact .inl hj
  closed := fun j hne hj => by
    rw [List.getElem?_set, if_neg (Ne.symm hne)] at hj
    exact .inl hj
  some := fun s e _ _ h => by cases h
theorem Marking.skip {l : List Df} {i : Nat} {ns : List ByteArray} {n : ByteArray} {m m' : List Bool} (h : Marking l i ns m m') (hn : ∀ (s : Nat) (e : Df), l[s]? = Option.some e → s < i → e.name ≠ n) : Marking l i (ns ++ [n]) m m' :=
  ⟨h.len, h.mono, h.self, h.new, h.closed, fun s e he hs hm => by
    rcases List.mem_append.1 hm with hm | hm
    · exact h.some s e he hs hm
    · simp at hm; exact (hn s e he hs hm).elim⟩
theorem Marking.call {l : List Df} (hu : Uniq l) {i j : Nat} {ns : List ByteArray} {d e : Df} {m m' m'' : List Bool} (h : Marking l i ns m m') (hd : l[i]? = Option.some d) (he : l[j]? = Option.some e) (hj : j < i) (hf : e.name ∈ freeS d.tm) (g : Marked l j m' m'') : Marking l i (ns ++ [e.name]) m m'' where
  len := g.len.trans h.len
  mono := fun q hq => g.mono q (h.mono q hq)
  self := g.mono i h.self
  new := fun q hq => by
    rcases g.new q hq with hq | hq
    · exact h.new q hq
    · exact .inr ((Reach.base.step ⟨hj, d, e, hd, he, hf⟩).trans hq)
  closed := fun q hne hq => by
    rcases g.closed q hq with hq' | hq'
    · rcases h.closed q hne hq' with h1 | h1
      · exact .inl h1
      · exact .inr fun s hs => g.mono s (h1 s hs)
    · exact .inr hq'
  some := fun s e' he' hs hm => by
    rcases List.mem_append.1 hm with hm | hm
    · exact g.mono s (h.some s e' he' hs hm)
    · simp at hm
      have := hu s j e' e he' he hm
      subst this
      exact g.self
theorem Marking.done {l : List Df} {i : Nat} {d : Df} {m m' : List Bool} (hd : l[i]? = Option.some d) (h : Marking l i (freeS d.tm) m m') : Marked l i m m' where
  len := h.len
  mono := h.mono
  self := h.self
  new := h.new
  closed := fun j hj => by
    by_cases e : j = i
    · subst e
      right
      rintro s ⟨h1, d', e, h2, h3, h4⟩
      rw [hd] at h2; cases h2
      exact h.some s e h3 h1 h4
    · exact h.closed j e hj
theorem Marked.old {l : List Df} {i : Nat} {m : List Bool} (h : m[i]? = some true) : Marked l i m m := ⟨rfl, fun _ h => h, h, fun _ h => .inl h, fun _ h => .inl h⟩
theorem Marked.all {l : List Df} {k : Nat} {m' : List Bool} (h : Marked l k (List.replicate l.length false) m') : m' = needB l k := by
  have hno : ∀ j : Nat, (List.replicate l.length false)[j]? ≠ some true := fun j hj => by
    have := List.mem_of_getElem? hj
    simp at this
  have hr : ∀ j, Reach l k j → m'[j]? = some true := fun j hj => by
    induction hj with
    | base => exact h.self
    | step _ s ih =>
      rcases h.closed _ ih with h1 | h1
      · exact (hno _ h1).elim
      · exact h1 _ s
  have hl : m'.length = l.length := by rw [h.len]; simp
  refine List.ext_getElem? fun j => ?_
  simp only [needB, List.getElem?_map]
  by_cases hj : j < l.length
  · rw [List.getElem?_range hj]
    simp only [Option.map_some]
    cases hb : m'[j]? with
    | none => rw [List.getElem?_eq_none_iff] at hb; omega
    | some b =>
      congr 1
      cases b with
      | true =>
        rcases h.new j hb with h1 | h1
        · exact (hno _ h1).elim
        · exact (isR_iff.2 h1).symm
      | false =>
        cases hc : isR l k j with
        | false => rfl
        | true => rw [hr j (isR_iff.1 hc)] at hb; cases hb
  · rw [List.getElem?_eq_none (by omega), List.getElem?_eq_none (by simpa using hj)]; rfl
theorem obj1 (l : List Df) : ∃ ξ, [AObj.var [.d (.sl 0 15 (drows l))], .mp KK.str 0 [], .var [.mp 1]] = [AObj.var [.d (.sl 0 15 (drows l))], .mp KK.str 0 (encL (hv 0 (l.take 0))), .var [.mp 1]] ++ ξ := ⟨[], by rw [enc0]; rfl⟩
end Go.Proofs.YthmbncehoblgpaaGreatDoor.E

/- Free names in the document's answer: a name in a list, a longer list. No conditions. -/
set_option linter.unusedVariables false
set_option linter.unusedSimpArgs false
namespace Go.Proofs.YthmbncehoblgpaaGreatDoor.E
open Go

theorem strs_get {l : List ByteArray} {i : Nat} {row : List DV} (h : (strs l)[i]? = some row) : ∃ s, l[i]? = some s ∧ row = [.str s] := by
  simp only [strs, List.getElem?_map, Option.map_eq_some_iff] at h
  obtain ⟨s, h1, h2⟩ := h
  exact ⟨s, h1, h2.symm⟩
theorem strs_app (l m : List ByteArray) : strs (l ++ m) = strs l ++ strs m := by simp [strs]
def inF (l : List ByteArray) (s : ByteArray) : Bool := l.any fun t => decide (t = s)
theorem inF_iff {l : List ByteArray} {s : ByteArray} : inF l s = true ↔ s ∈ l := by
  simp only [inF, List.any_eq_true, decide_eq_true_eq]
  exact ⟨fun ⟨t, h, e⟩ => e ▸ h, fun h => ⟨s, h, rfl⟩⟩
theorem inF_not {l : List ByteArray} {s : ByteArray} : inF l s = false ↔ s ∉ l := by
  rw [← inF_iff]; simp
structure InI (l : List ByteArray) (s : ByteArray) where
  i : Nat
  hi : i ≤ l.length
  no : s ∉ l.take i
theorem InI.more {l : List ByteArray} {s t : ByteArray} {i : Nat} (h : s ∉ l.take i) (ht : l[i]? = some t) (hne : ¬ t = s) : s ∉ l.take (i + 1) := by
  rw [List.take_add_one, ht]
  simp only [Option.toList, List.mem_append, List.mem_singleton, not_or]
  exact ⟨h, fun e => hne e.symm⟩
set_option maxRecDepth 10000 in
theorem in_call (l : List ByteArray) (s : ByteArray) (hl : l.length ≤ 1000000) : ACall Tryz.prog 38 [.c (.d (.sl 0 1 (strs l))), .c (.d (.str s))] [] (fun o σ => o = .ret (.c (.d (.bool (inF l s)))) ∧ σ = []) := by
  refine ACall.body tab_ok (ρ := 0) (N := 18) Tryz.func38 rfl rfl rfl rfl rfl ?_
  repeat' first | refine AW.seq ?_ | refine AW.block ?_ | ((first | refine AW.region tab_ok ?_ | refine AW.cond ?_ | refine AW.skip ?_ | refine AW.ret ?_ | refine AW.exit ?_); conv => whnf) | ((first | refine And.intro (@rfl Val _) ?_ | refine And.intro (by decide) ?_ | refine cs (fun _ => ?_) (fun _ => ?_)) <;> conv => whnf)
  refine AW.loop (ι := InI l s) (fun x => ⟨18, [(5, .c (.d (.int .i64 x.i))), (0, .c (.d (.sl 0 1 (strs l)))), (1, .c (.d (.str s)))], [], []⟩)
    (fun x => l.length - x.i) ⟨0, Nat.zero_le _, by simp⟩ 0 (fun _ => rfl) (Nat.le_of_ble_eq_true rfl) ⟨⟨rfl, rfl, rfl, trivial⟩, rfl, rfl, ⟨[], rfl⟩, rfl⟩ (fun x => ?_)
  obtain ⟨i, hi, hno⟩ := x
  repeat' first | refine AW.seq ?_ | refine AW.block ?_ | ((first | refine AW.region tab_ok ?_ | refine AW.cond ?_ | refine AW.skip ?_ | refine AW.ret ?_ | refine AW.exit ?_); conv => whnf) | ((first | refine And.intro (@rfl Val _) ?_ | refine And.intro (by decide) ?_ | refine cs (fun _ => ?_) (fun _ => ?_)) <;> conv => whnf)
  · rename_i h1
    simp only [strs_len] at h1 ⊢
    have := of_decide_eq_true h1
    refine ⟨by omega, fun row hrow => ?_⟩
    obtain ⟨t, ht, rfl⟩ := strs_get (by simpa using hrow)
    have hlt : i < l.length := (List.getElem?_eq_some_iff.1 ht).1
    conv => whnf
    repeat' first | refine AW.seq ?_ | refine AW.block ?_ | ((first | refine AW.region tab_ok ?_ | refine AW.cond ?_ | refine AW.skip ?_ | refine AW.ret ?_ | refine AW.exit ?_); conv => whnf) | ((first | refine And.intro (@rfl Val _) ?_ | refine And.intro (by decide) ?_ | refine cs (fun _ => ?_) (fun _ => ?_)) <;> conv => whnf)
    · rename_i h2
      have h2 := of_decide_eq_true h2
      subst h2
      have : inF l t = true := inF_iff.2 (List.mem_of_getElem? ht)
      rw [this]
      exact ⟨rfl, rfl⟩
    · rename_i h2
      have h2 := of_decide_eq_false h2
      rw [wrap64 (x := (i : Int) + 1) (by omega) (by omega)]
      exact ⟨⟨i + 1, hlt, InI.more hno ht h2⟩, ⟨⟨rfl, rfl, rfl, trivial⟩, rfl, rfl, ⟨[], rfl⟩, rfl⟩, show l.length - (i + 1) < l.length - i by omega⟩
  · rename_i h1
    simp only [strs_len] at h1
    have := of_decide_eq_false h1
    have e : inF l s = false := by
      rw [List.take_of_length_le (by omega)] at hno
      exact inF_not.2 hno
    rw [e]
    exact ⟨rfl, rfl⟩
set_option maxRecDepth 10000 in
theorem inO_call (l : List ByteArray) (s : ByteArray) (hl : l.length ≤ 1000000) : ACall Tryz.prog 38 [.c (.own 0 (strs l).length), .c (.d (.str s))] [.row 9 1 (strs l)] (fun o σ => o = .ret (.c (.d (.bool (inF l s)))) ∧ σ = [.row 9 1 (strs l)]) := by
  refine ACall.body tab_ok (ρ := 0) (N := 18) Tryz.func38 rfl rfl rfl rfl rfl ?_
  repeat' first | refine AW.seq ?_ | refine AW.block ?_ | ((first | refine AW.region tab_ok ?_ | refine AW.cond ?_ | refine AW.skip ?_ | refine AW.ret ?_ | refine AW.exit ?_); conv => whnf) | ((first | refine And.intro (@rfl Val _) ?_ | refine And.intro (by decide) ?_ | refine cs (fun _ => ?_) (fun _ => ?_)) <;> conv => whnf)
  refine AW.loop (ι := InI l s) (fun x => ⟨18, [(5, .c (.d (.int .i64 x.i))), (0, .c (.own 0 (strs l).length)), (1, .c (.d (.str s)))], [.row 9 1 (strs l)], []⟩)
    (fun x => l.length - x.i) ⟨0, Nat.zero_le _, by simp⟩ 1 (fun _ => rfl) (Nat.le_of_ble_eq_true rfl) ⟨⟨rfl, rfl, rfl, trivial⟩, rfl, rfl, ⟨[], rfl⟩, rfl⟩ (fun x => ?_)
  obtain ⟨i, hi, hno⟩ := x
  repeat' first | refine AW.seq ?_ | refine AW.block ?_ | ((first | refine AW.region tab_ok ?_ | refine AW.cond ?_ | refine AW.skip ?_ | refine AW.ret ?_ | refine AW.exit ?_); conv => whnf) | ((first | refine And.intro (@rfl Val _) ?_ | refine And.intro (by decide) ?_ | refine cs (fun _ => ?_) (fun _ => ?_)) <;> conv => whnf)
  · rename_i h1
    have hlt : i < l.length := by have := of_decide_eq_true h1; simp only [strs_len] at this; omega
    refine ⟨⟨rfl, by simp only; omega, by simp only [strs_len]; omega⟩, ?_⟩
    conv => whnf
    repeat' first | refine AW.seq ?_ | refine AW.block ?_ | ((first | refine AW.region tab_ok ?_ | refine AW.cond ?_ | refine AW.skip ?_ | refine AW.ret ?_ | refine AW.exit ?_); conv => whnf) | ((first | refine And.intro (@rfl Val _) ?_ | refine And.intro (by decide) ?_ | refine cs (fun _ => ?_) (fun _ => ?_)) <;> conv => whnf)
    refine ⟨⟨rfl, by simp only [strs_len]; omega⟩, fun row hrow => ?_⟩
    obtain ⟨t, ht, rfl⟩ := strs_get (by simpa using hrow)
    conv => whnf
    repeat' first | refine AW.seq ?_ | refine AW.block ?_ | ((first | refine AW.region tab_ok ?_ | refine AW.cond ?_ | refine AW.skip ?_ | refine AW.ret ?_ | refine AW.exit ?_); conv => whnf) | ((first | refine And.intro (@rfl Val _) ?_ | refine And.intro (by decide) ?_ | refine cs (fun _ => ?_) (fun _ => ?_)) <;> conv => whnf)
    · rename_i h2
      have h2 := of_decide_eq_true h2
      subst h2
      have : inF l t = true := inF_iff.2 (List.mem_of_getElem? ht)
      rw [this]
      exact ⟨rfl, rfl⟩
    · rename_i h2
      have h2 := of_decide_eq_false h2
      rw [wrap64 (x := (i : Int) + 1) (by omega) (by omega)]
      exact ⟨⟨i + 1, hlt, InI.more hno ht h2⟩, ⟨⟨rfl, rfl, rfl, trivial⟩, rfl, rfl, ⟨[], rfl⟩, rfl⟩, show l.length - (i + 1) < l.length - i by omega⟩
  · rename_i h1
    simp only [strs_len] at h1
    have := of_decide_eq_false h1
    have e : inF l s = false := by
      rw [List.take_of_length_le (by omega)] at hno
      exact inF_not.2 hno
    rw [e]
    exact ⟨rfl, rfl⟩
structure UpS (l : List ByteArray) where
  i : Nat
  hi : i ≤ l.length
set_option maxRecDepth 10000 in
theorem with_call (l : List ByteArray) (s : ByteArray) (hl : l.length ≤ 1000000) : ACall Tryz.prog 90 [.c (.d (.sl 0 1 (strs l))), .c (.d (.str s))] [] (fun o σ => o = .ret (.c (.d (.sl 0 1 (strs (l ++ [s]))))) ∧ σ = []) := by
  refine ACall.body tab_ok (ρ := 0) (N := 28) Tryz.func90 rfl rfl rfl rfl rfl ?_
  repeat' first | refine AW.seq ?_ | refine AW.block ?_ | ((first | refine AW.region tab_ok ?_ | refine AW.cond ?_ | refine AW.skip ?_ | refine AW.ret ?_ | refine AW.exit ?_); conv => whnf) | ((first | refine And.intro (@rfl Val _) ?_ | refine And.intro (by decide) ?_ | refine cs (fun _ => ?_) (fun _ => ?_)) <;> conv => whnf)
  have hw : IntKind.i64.wrap (((strs l).length : Int) + 1) = l.length + 1 := by rw [strs_len, wrap64 (by omega) (by omega)]
  rw [hw]
  refine ⟨⟨by omega, by omega, by simp only; omega, by omega⟩, ?_⟩
  conv => whnf
  repeat' first | refine AW.seq ?_ | refine AW.block ?_ | ((first | refine AW.region tab_ok ?_ | refine AW.cond ?_ | refine AW.skip ?_ | refine AW.ret ?_ | refine AW.exit ?_); conv => whnf) | ((first | refine And.intro (@rfl Val _) ?_ | refine And.intro (by decide) ?_ | refine cs (fun _ => ?_) (fun _ => ?_)) <;> conv => whnf)
  refine AW.loop (ι := UpS l) (fun x => ⟨28, [(6, .c (.d (.int .i64 x.i))), (5, .c (.own 0 (strs (l.take x.i)).length)), (0, .c (.d (.sl 0 1 (strs l)))), (1, .c (.d (.str s)))], [.row 9 1 (strs (l.take x.i))], []⟩)
    (fun x => l.length - x.i) ⟨0, Nat.zero_le _⟩ 1 (fun _ => rfl) (Nat.le_of_ble_eq_true rfl) ⟨⟨rfl, rfl, rfl, rfl, trivial⟩, rfl, rfl, ⟨[], rfl⟩, rfl⟩ (fun x => ?_)
  obtain ⟨i, hi⟩ := x
  repeat' first | refine AW.seq ?_ | refine AW.block ?_ | ((first | refine AW.region tab_ok ?_ | refine AW.cond ?_ | refine AW.skip ?_ | refine AW.ret ?_ | refine AW.exit ?_); conv => whnf) | ((first | refine And.intro (@rfl Val _) ?_ | refine And.intro (by decide) ?_ | refine cs (fun _ => ?_) (fun _ => ?_)) <;> conv => whnf)
  · rename_i h1
    simp only [strs_len] at h1 ⊢
    have := of_decide_eq_true h1
    refine ⟨by omega, fun row hrow => ?_⟩
    obtain ⟨t, ht, rfl⟩ := strs_get (by simpa using hrow)
    have hlt : i < l.length := (List.getElem?_eq_some_iff.1 ht).1
    have e : strs (l.take i) ++ [[.str t]] = strs (l.take (i + 1)) := by rw [List.take_add_one, ht, strs_app]; rfl
    have el : (strs (l.take i)).length + [[DV.str t]].length = (l.take (i + 1)).length := by simp [strs_len]; omega
    conv => whnf
    repeat' first | refine AW.seq ?_ | refine AW.block ?_ | ((first | refine AW.region tab_ok ?_ | refine AW.cond ?_ | refine AW.skip ?_ | refine AW.ret ?_ | refine AW.exit ?_); conv => whnf) | ((first | refine And.intro (@rfl Val _) ?_ | refine And.intro (by decide) ?_ | refine cs (fun _ => ?_) (fun _ => ?_)) <;> conv => whnf)
    refine ⟨⟨by simp only [strs_len], ?_, ?_⟩, ?_⟩
    · simp only [strs_len, List.length_take, List.length_cons, List.length_nil]; omega
    · simp only [strs_len, List.length_take, List.length_cons, List.length_nil]; omega
    conv => whnf
    repeat' first | refine AW.seq ?_ | refine AW.block ?_ | ((first | refine AW.region tab_ok ?_ | refine AW.cond ?_ | refine AW.skip ?_ | refine AW.ret ?_ | refine AW.exit ?_); conv => whnf) | ((first | refine And.intro (@rfl Val _) ?_ | refine And.intro (by decide) ?_ | refine cs (fun _ => ?_) (fun _ => ?_)) <;> conv => whnf)
    rw [el, e, wrap64 (x := (i : Int) + 1) (by omega) (by omega)]
    exact ⟨⟨i + 1, hlt⟩, ⟨⟨rfl, rfl, rfl, rfl, trivial⟩, rfl, rfl, ⟨[], rfl⟩, rfl⟩, show l.length - (i + 1) < l.length - i by omega⟩
  · rename_i h1
    simp only [strs_len] at h1
    have := of_decide_eq_false h1
    have e : l.take i = l := List.take_of_length_le (by omega)
    simp only [e]
    refine ⟨⟨by simp only [strs_len], ?_, ?_⟩, ?_⟩
    · simp only [strs_len, List.length_cons, List.length_nil]; omega
    · simp only [strs_len, List.length_cons, List.length_nil]; omega
    conv => whnf
    repeat' first | refine AW.seq ?_ | refine AW.block ?_ | ((first | refine AW.region tab_ok ?_ | refine AW.cond ?_ | refine AW.skip ?_ | refine AW.ret ?_ | refine AW.exit ?_); conv => whnf) | ((first | refine And.intro (@rfl Val _) ?_ | refine And.intro (by decide) ?_ | refine cs (fun _ => ?_) (fun _ => ?_)) <;> conv => whnf)
    rw [strs_app]
    refine ⟨by simp [strs_len], ?_⟩
    conv => whnf
    exact ⟨rfl, rfl⟩
end Go.Proofs.YthmbncehoblgpaaGreatDoor.E

/- Walks: defs.needed and its closure. No conditions. -/
set_option linter.unusedVariables false
set_option linter.unusedSimpArgs false
namespace Go.Proofs.YthmbncehoblgpaaGreatDoor.E
open Go

/-- What the closure sees. -/
def mObj (l : List Df) (m : List Bool) : List AObj :=
  [.var [.own 4 (brows m).length], .var [.d (.sl 0 15 (drows l))], .var [.mp 5], .var [.fn 32 [] [.ptr 0 0, .ptr 1 0, .ptr 2 0, .ptr 3 0]], .row 4 1 (brows m), .mp .str l.length (encL (hv 0 l))]
def MarkC (l : List Df) (i : Nat) : Prop := ∀ m : List Bool, m.length = l.length →
  ACall Tryz.prog 32 [.c (.d (.int .i64 i)), .c (.ptr 0 0), .c (.ptr 1 0), .c (.ptr 2 0), .c (.ptr 3 0)] (mObj l m) (fun o σ => o = .ret (.tup []) ∧ ∃ m', Marked l i m m' ∧ σ = mObj l m')
theorem freeS_len (t : Tm) : (freeS t).length ≤ 8192 := by
  unfold freeS
  split
  · rename_i h
    have h1 := fterm_len t ((0, []), (0, []))
    have := (tmcheck_ok h).1
    simp only [bsort_len, freeR, List.length_map]
    simp at h1
    omega
  · simp
structure MaI (l : List Df) (i : Nat) (names : List ByteArray) (m : List Bool) where
  q : Nat
  hq : q ≤ names.length
  m' : List Bool
  h : Marking l i (names.take q) m m'
set_option maxRecDepth 10000 in
theorem mark_call (l : List Df) (hl : l.length ≤ 256) (hu : Uniq l) (i : Nat) : i < l.length → MarkC l i := by
  induction i using Nat.strongRecOn with
  | _ i ih =>
  intro hi m hm
  obtain ⟨d, hd⟩ : ∃ d, l[i]? = some d := ⟨_, List.getElem?_eq_getElem hi⟩
  obtain ⟨b, hb⟩ : ∃ b, m[i]? = some b := ⟨_, List.getElem?_eq_getElem (by omega)⟩
  have hrow : (drows l)[i]? = some d.cells := by simp [drows, hd]
  have hbr : (brows m)[i]? = some [.bool b] := by simp [brows, hb]
  unfold mObj
  refine ACall.body tab_ok (ρ := 0) (N := 42) Tryz.func32 rfl rfl rfl rfl rfl ?_
  repeat' first | refine AW.seq ?_ | refine AW.block ?_ | ((first | refine AW.region tab_ok ?_ | refine AW.cond ?_ | refine AW.skip ?_ | refine AW.ret ?_ | refine AW.exit ?_); conv => whnf) | ((first | refine And.intro (@rfl Val _) ?_ | refine And.intro (by decide) ?_ | refine cs (fun _ => ?_) (fun _ => ?_)) <;> conv => whnf)
  have hbl := brows_len m
  refine ⟨⟨rfl, by omega, by omega⟩, ?_⟩
  conv => whnf
  repeat' first | refine AW.seq ?_ | refine AW.block ?_ | ((first | refine AW.region tab_ok ?_ | refine AW.cond ?_ | refine AW.skip ?_ | refine AW.ret ?_ | refine AW.exit ?_); conv => whnf) | ((first | refine And.intro (@rfl Val _) ?_ | refine And.intro (by decide) ?_ | refine cs (fun _ => ?_) (fun _ => ?_)) <;> conv => whnf)
  refine ⟨⟨rfl, by omega⟩, fun row hr => ?_⟩
  obtain rfl : row = [.bool b] := by rw [show ((i : Int)).toNat = i from rfl, hbr] at hr; exact (Option.some.inj hr).symm
  conv => whnf
  repeat' first | refine AW.seq ?_ | refine AW.block ?_ | ((first | refine AW.region tab_ok ?_ | refine AW.cond ?_ | refine AW.skip ?_ | refine AW.ret ?_ | refine AW.exit ?_); conv => whnf) | ((first | refine And.intro (@rfl Val _) ?_ | refine And.intro (by decide) ?_ | refine cs (fun _ => ?_) (fun _ => ?_)) <;> conv => whnf)
  · rename_i h
    exact ⟨rfl, m, Marked.old (by rw [hb, h]), rfl⟩
  clear hr
  refine ⟨⟨rfl, by omega, by omega⟩, ?_⟩
  conv => whnf
  repeat' first | refine AW.seq ?_ | refine AW.block ?_ | ((first | refine AW.region tab_ok ?_ | refine AW.cond ?_ | refine AW.skip ?_ | refine AW.ret ?_ | refine AW.exit ?_); conv => whnf) | ((first | refine And.intro (@rfl Val _) ?_ | refine And.intro (by decide) ?_ | refine cs (fun _ => ?_) (fun _ => ?_)) <;> conv => whnf)
  refine ⟨⟨rfl, by omega⟩, ?_⟩
  rw [show ((i : Int)).toNat = i from rfl, brows_set, show (brows m).length = (brows (m.set i true)).length by simp [brows_len]]
  have hst := Marking.start (l := l) (i := i) (m := m) (by omega)
  have hfin := fun (m' : List Bool) (h : Marking l i (freeS d.tm) m m') => h.done hd
  have c1 := tFree_call d.tm
  have hfl : (freeS d.tm).length ≤ 8192 := freeS_len d.tm
  have hcl := fun (j : Nat) (e : Df) ns m1 m2 he hj hf (h : Marking l i ns m m1) g => h.call (m'' := m2) hu (j := j) (e := e) hd he hj hf g
  obtain ⟨s, ⟨a, bs⟩, ⟨k, name, arg, num, tk, tks, uk, uks, label, place, ks⟩, pl⟩ := d
  simp only at hfin c1 hfl hcl
  generalize freeS (Tm.node k name arg num tk tks uk uks label place ks) = ns at *
  conv => whnf
  repeat' first | refine AW.seq ?_ | refine AW.block ?_ | ((first | refine AW.region tab_ok ?_ | refine AW.cond ?_ | refine AW.skip ?_ | refine AW.ret ?_ | refine AW.exit ?_); conv => whnf) | (refine (c1).mono ?_; rintro _ _ ⟨rfl, rfl⟩; conv => whnf) | ((first | refine And.intro (@rfl Val _) ?_ | refine And.intro (by decide) ?_ | refine cs (fun _ => ?_) (fun _ => ?_)) <;> conv => whnf)
  refine ⟨by rw [drows_len]; omega, fun row hr => ?_⟩
  obtain rfl := Option.some.inj (hrow.symm.trans hr)
  conv => whnf
  repeat' first | refine AW.seq ?_ | refine AW.block ?_ | ((first | refine AW.region tab_ok ?_ | refine AW.cond ?_ | refine AW.skip ?_ | refine AW.ret ?_ | refine AW.exit ?_); conv => whnf) | (refine (c1).mono ?_; rintro _ _ ⟨rfl, rfl⟩; conv => whnf) | ((first | refine And.intro (@rfl Val _) ?_ | refine And.intro (by decide) ?_ | refine cs (fun _ => ?_) (fun _ => ?_)) <;> conv => whnf)
  refine AW.loop (ι := MaI l i ns m) (fun x => ⟨42, [(23, .c (.d (.int .i64 x.q))), (22, .c (.d (.int .i64 (strs ns).length))), (21, .c (.d (.sl 0 1 (strs ns)))), (0, .c (.d (.int .i64 i))), (1, .c (.ptr 0 0)), (2, .c (.ptr 1 0)), (3, .c (.ptr 2 0)), (4, .c (.ptr 3 0))], mObj l x.m', []⟩)
    (fun x => ns.length - x.q) ⟨0, Nat.zero_le _, _, hst⟩ 6 (fun _ => rfl) (Nat.le_of_ble_eq_true rfl) ⟨⟨rfl, rfl, rfl, rfl, rfl, rfl, rfl, rfl, trivial⟩, rfl, rfl, ⟨[], rfl⟩, rfl⟩ (fun x => ?_)
  obtain ⟨q, hq, m1, h1⟩ := x
  unfold mObj
  repeat' first | refine AW.seq ?_ | refine AW.block ?_ | ((first | refine AW.region tab_ok ?_ | refine AW.cond ?_ | refine AW.skip ?_ | refine AW.ret ?_ | refine AW.exit ?_); conv => whnf) | ((first | refine And.intro (@rfl Val _) ?_ | refine And.intro (by decide) ?_ | refine cs (fun _ => ?_) (fun _ => ?_)) <;> conv => whnf)
  · rename_i h2
    simp only [strs_len] at h2 ⊢
    have := of_decide_eq_true h2
    refine ⟨by omega, fun row hr2 => ?_⟩
    obtain ⟨n, hn, rfl⟩ := strs_get (by simpa using hr2)
    have htk : ns.take (q + 1) = ns.take q ++ [n] := by rw [List.take_add_one, hn]; rfl
    have hlq : q < ns.length := (List.getElem?_eq_some_iff.1 hn).1
    have hml : m1.length = l.length := h1.len.trans hm
    have htv := tval_hv n l 0
    by_cases hz : nix n 0 l = 0
    · rw [hz] at htv
      have hsk := h1.skip (n := n) (fun s e he _ => nix_zero.1 hz e (List.mem_of_getElem? he))
      rw [← htk] at hsk
      conv => whnf
      repeat' first | ((refine mlook_of ?_; rw [htv]; conv => whnf)) | refine AW.seq ?_ | refine AW.block ?_ | ((first | refine AW.region tab_ok ?_ | refine AW.cond ?_ | refine AW.skip ?_ | refine AW.ret ?_ | refine AW.exit ?_); conv => whnf) | ((first | refine And.intro (@rfl Val _) ?_ | refine And.intro (by decide) ?_ | refine cs (fun _ => ?_) (fun _ => ?_)) <;> conv => whnf)
      rw [wrap64 (x := (q : Int) + 1) (by omega) (by omega)]
      exact ⟨⟨q + 1, hlq, m1, hsk⟩, ⟨⟨rfl, rfl, rfl, rfl, rfl, rfl, rfl, rfl, trivial⟩, rfl, rfl, ⟨[], rfl⟩, rfl⟩, show ns.length - (q + 1) < ns.length - q by omega⟩
    · obtain ⟨j, e, he, hen, hnx, hfst⟩ := nix_pos hz
      have hjl := (List.getElem?_eq_some_iff.1 he).1
      rw [hnx] at htv
      have hw : IntKind.i64.wrap (((0 : Nat) : Int) + (j : Int) + 1 - 1) = (j : Int) := by rw [wrap64 (by omega) (by omega)]; omega
      have hge : decide ((j : Int) ≥ 0) = true := by simp
      conv => whnf
      repeat' first | refine AW.seq ?_ | refine AW.block ?_ | ((first | refine AW.region tab_ok ?_ | refine AW.cond ?_ | refine AW.skip ?_ | refine AW.ret ?_ | refine AW.exit ?_); conv => whnf) | ((first | refine And.intro (@rfl Val _) ?_ | refine And.intro (by decide) ?_ | refine cs (fun _ => ?_) (fun _ => ?_)) <;> conv => whnf)
      refine mlook_of ?_
      rw [htv]
      conv => whnf
      rw [hw]
      by_cases hji : j < i
      · have hlt : decide ((j : Int) < (i : Int)) = true := by simp [hji]
        repeat' first | ((rw [hge]; conv => whnf)) | ((rw [hlt]; conv => whnf)) | ((refine (ih j hji hjl m1 hml).mono ?_; rintro _ _ ⟨rfl, m2, hm2, rfl⟩; conv => whnf)) | refine AW.seq ?_ | refine AW.block ?_ | ((first | refine AW.region tab_ok ?_ | refine AW.cond ?_ | refine AW.skip ?_ | refine AW.ret ?_ | refine AW.exit ?_); conv => whnf) | ((first | refine And.intro (@rfl Val _) ?_ | refine And.intro (by decide) ?_ | refine cs (fun _ => ?_) (fun _ => ?_)) <;> conv => whnf)
        have hnx2 := hcl j e _ m1 m2 he hji (by rw [hen]; exact List.mem_of_getElem? hn) h1 hm2
        rw [hen, ← htk] at hnx2
        rw [wrap64 (x := (q : Int) + 1) (by omega) (by omega)]
        exact ⟨⟨q + 1, hlq, m2, hnx2⟩, ⟨⟨rfl, rfl, rfl, rfl, rfl, rfl, rfl, rfl, trivial⟩, rfl, rfl, ⟨[], rfl⟩, rfl⟩, show ns.length - (q + 1) < ns.length - q by omega⟩
      · have hlt : decide ((j : Int) < (i : Int)) = false := by simp; omega
        have hsk := h1.skip (n := n) (fun s e' he' hs hnn => by have := hu s j e' e he' he (hnn.trans hen.symm); omega)
        rw [← htk] at hsk
        repeat' first | ((rw [hge]; conv => whnf)) | ((rw [hlt]; conv => whnf)) | refine AW.seq ?_ | refine AW.block ?_ | ((first | refine AW.region tab_ok ?_ | refine AW.cond ?_ | refine AW.skip ?_ | refine AW.ret ?_ | refine AW.exit ?_); conv => whnf) | ((first | refine And.intro (@rfl Val _) ?_ | refine And.intro (by decide) ?_ | refine cs (fun _ => ?_) (fun _ => ?_)) <;> conv => whnf)
        rw [wrap64 (x := (q : Int) + 1) (by omega) (by omega)]
        exact ⟨⟨q + 1, hlq, m1, hsk⟩, ⟨⟨rfl, rfl, rfl, rfl, rfl, rfl, rfl, rfl, trivial⟩, rfl, rfl, ⟨[], rfl⟩, rfl⟩, show ns.length - (q + 1) < ns.length - q by omega⟩
  · rename_i h2
    simp only [strs_len] at h2
    have := of_decide_eq_false h2
    rw [List.take_of_length_le (by omega)] at h1
    exact ⟨rfl, m1, hfin m1 h1, rfl⟩
structure NeI (l : List Df) where
  i : Nat
  hi : i ≤ l.length
set_option maxRecDepth 10000 in
theorem needed_call (l : List Df) (k : Nat) (hk : k < l.length) (hl : l.length ≤ 256) (hnd : Uniq l) : ACall Tryz.prog 16 [.c (.d (.sl 0 15 (drows l))), .c (.d (.int .i64 k))] [] (fun o σ => o = .ret (.c (.d (.sl 0 1 (brows (needB l k))))) ∧ σ = []) := by
  refine ACall.body tab_ok (ρ := 0) (N := 32) Tryz.func16 rfl rfl rfl rfl rfl ?_
  repeat' first | refine AW.seq ?_ | refine AW.block ?_ | ((first | refine AW.region tab_ok ?_ | refine AW.cond ?_ | refine AW.skip ?_ | refine AW.ret ?_ | refine AW.exit ?_); conv => whnf) | ((first | refine And.intro (@rfl Val _) ?_ | refine And.intro (by decide) ?_ | refine cs (fun _ => ?_) (fun _ => ?_)) <;> conv => whnf)
  refine AW.loop (ι := NeI l) (fun x => ⟨32, [(13, .c (.d (.int .i64 x.i))), (12, .c (.d (.int .i64 (drows l).length))), (11, .c (.d (.sl 0 15 (drows l)))), (5, .c (.ptr 2 0)), (2, .c (.ptr 0 0)), (1, .c (.d (.int .i64 k)))], [.var [.d (.sl 0 15 (drows l))], .mp .str x.i (encL (hv 0 (l.take x.i))), .var [.mp 1]], []⟩)
    (fun x => l.length - x.i) ⟨0, Nat.zero_le _⟩ 3 (fun _ => rfl) (Nat.le_of_ble_eq_true rfl) ⟨⟨rfl, rfl, rfl, rfl, rfl, rfl, trivial⟩, rfl, rfl, obj1 l, rfl⟩ (fun x => ?_)
  obtain ⟨i, hi⟩ := x
  repeat' first | refine AW.seq ?_ | refine AW.block ?_ | ((first | refine AW.region tab_ok ?_ | refine AW.cond ?_ | refine AW.skip ?_ | refine AW.ret ?_ | refine AW.exit ?_); conv => whnf) | ((first | refine And.intro (@rfl Val _) ?_ | refine And.intro (by decide) ?_ | refine cs (fun _ => ?_) (fun _ => ?_)) <;> conv => whnf)
  · rename_i h1
    simp only [drows_len] at h1 ⊢
    have := of_decide_eq_true h1
    refine ⟨by omega, fun row hrow => ?_⟩
    obtain ⟨d, hd, rfl⟩ := drows_get (by simpa using hrow)
    have hlt : i < l.length := (List.getElem?_eq_some_iff.1 hd).1
    have hs := take_snoc hd
    have h0 := hnd.fresh hd
    have hlt2 : (l.take i).length = i := by simp; omega
    obtain ⟨s, ⟨a, bs⟩, ⟨q, name, arg, num, tk, tks, uk, uks, label, place, ks⟩, pl⟩ := d
    have hput := tput_hv (d := ⟨s, .node a bs, .node q name arg num tk tks uk uks label place ks, pl⟩) hlt2.symm rfl h0 ((i : Int) + 1) rfl
    rw [← hs] at hput
    simp only at hput
    conv => whnf
    repeat' first | ((refine mput_of ?_; conv => whnf)) | refine AW.seq ?_ | refine AW.block ?_ | ((first | refine AW.region tab_ok ?_ | refine AW.cond ?_ | refine AW.skip ?_ | refine AW.ret ?_ | refine AW.exit ?_); conv => whnf) | ((first | refine And.intro (@rfl Val _) ?_ | refine And.intro (by decide) ?_ | refine cs (fun _ => ?_) (fun _ => ?_)) <;> conv => whnf)
    rw [wrap64 (x := (i : Int) + 1) (by omega) (by omega), hput]
    exact ⟨⟨i + 1, hlt⟩, ⟨⟨rfl, rfl, rfl, rfl, rfl, rfl, trivial⟩, rfl, rfl, ⟨_, rfl⟩, rfl⟩, show l.length - (i + 1) < l.length - i by omega⟩
  · rename_i h1
    simp only [drows_len] at h1
    have := of_decide_eq_false h1
    obtain rfl : i = l.length := by omega
    repeat' first | refine AW.seq ?_ | refine AW.block ?_ | ((first | refine AW.region tab_ok ?_ | refine AW.cond ?_ | refine AW.skip ?_ | refine AW.ret ?_ | refine AW.exit ?_); conv => whnf) | ((first | refine And.intro (@rfl Val _) ?_ | refine And.intro (by decide) ?_ | refine cs (fun _ => ?_) (fun _ => ?_)) <;> conv => whnf)
    rw [drows_len]
    refine ⟨⟨by omega, by omega, by simp only; omega, by omega⟩, ?_⟩
    conv => whnf
    repeat' first | refine AW.seq ?_ | refine AW.block ?_ | ((first | refine AW.region tab_ok ?_ | refine AW.cond ?_ | refine AW.skip ?_ | refine AW.ret ?_ | refine AW.exit ?_); conv => whnf) | ((first | refine And.intro (@rfl Val _) ?_ | refine And.intro (by decide) ?_ | refine cs (fun _ => ?_) (fun _ => ?_)) <;> conv => whnf)
    have e1 : List.replicate (((l.length : Nat) : Int)).toNat [DV.bool false] = brows (List.replicate l.length false) := by simp [brows]
    have e2 : (((l.length : Nat) : Int)).toNat = (brows (List.replicate l.length false)).length := by simp [brows]
    have e3 : hv 0 (l.take l.length) = hv 0 l := by rw [List.take_length]
    have hmc := mark_call l hl hnd k hk (List.replicate l.length false) (by simp)
    unfold mObj at hmc
    rw [← e3, ← e2, ← e1] at hmc
    refine hmc.mono ?_
    rintro _ _ ⟨rfl, m', hm', rfl⟩
    obtain rfl := hm'.all
    generalize needB l k = m'
    conv => whnf
    repeat' first | refine AW.seq ?_ | refine AW.block ?_ | ((first | refine AW.region tab_ok ?_ | refine AW.cond ?_ | refine AW.skip ?_ | refine AW.ret ?_ | refine AW.exit ?_); conv => whnf) | ((first | refine And.intro (@rfl Val _) ?_ | refine And.intro (by decide) ?_ | refine cs (fun _ => ?_) (fun _ => ?_)) <;> conv => whnf)
    refine ⟨rfl, ?_⟩
    conv => whnf
    exact ⟨rfl, rfl⟩
end Go.Proofs.YthmbncehoblgpaaGreatDoor.E
