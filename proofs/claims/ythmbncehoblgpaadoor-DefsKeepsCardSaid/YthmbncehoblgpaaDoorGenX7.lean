/- Texts, merged: Df2, Fr3, Df3, Fr4, Fr5, Fr6, Df4, Df5. No conditions. -/
import Derived.Test.YthmbncehoblgpaaDoorGenX6
import Derived.Test.YthmbncehoblgpaaDoorEngX3
import Derived.Lib.Strings
/- Which definitions are needed: a relation, and what marks them. No conditions. -/
set_option linter.unusedVariables false
set_option linter.unusedSimpArgs false
namespace Go.Proofs.YthmbncehoblgpaaDoor.E
open Go

/-- No two definitions have one name. -/
def Uniq (l : List Df) : Prop := ∀ (i j : Nat) (d e : Df), l[i]? = some d → l[j]? = some e → d.name = e.name → i = j
theorem Uniq.fresh {l : List Df} (h : Uniq l) {i : Nat} {d : Df} (hd : l[i]? = some d) : nix d.name 0 (l.take i) = 0 := by
  refine nix_zero.2 fun e he hn => ?_
  obtain ⟨j, hj⟩ := List.getElem?_of_mem he
  rw [List.getElem?_take] at hj
  split at hj
  · have := h j i e d hj hd hn; omega
  · cases hj
theorem soundF_uniq {l : List Df} (hb : ∀ j, j < l.length → badAt l j = false) : Uniq l := by
  have key : ∀ (i j : Nat) (d e : Df), i < j → l[i]? = some d → l[j]? = some e → d.name = e.name → False := fun i j d e hij hi hj hn => by
    have := hb j (List.getElem?_eq_some_iff.1 hj).1
    rw [badAt_nix hj] at this
    simp only [Bool.or_eq_false_iff, Bool.not_eq_false', decide_eq_true_eq, nix_zero] at this
    refine this.2 d (List.mem_of_getElem? (i := i) ?_) hn
    rw [List.getElem?_take, if_pos hij]; exact hi
  intro i j d e hi hj hn
  rcases Nat.lt_trichotomy i j with h | h | h
  · exact (key i j d e h hi hj hn).elim
  · exact h
  · exact (key j i e d h hj hi hn.symm).elim
theorem Uniq.nix {l : List Df} (h : Uniq l) {i : Nat} {d : Df} (hd : l[i]? = some d) : E.nix d.name 0 l = i + 1 := by
  have := nix_at (k := 0) hd rfl (fun j e hj he hn => by have := h j i e d he hd hn; omega)
  omega

/-- The definition at i has the name of that at j, ahead of it, free. -/
def Succ (l : List Df) (i j : Nat) : Prop := j < i ∧ ∃ d e, l[i]? = some d ∧ l[j]? = some e ∧ e.name ∈ freeS d.tm
inductive Reach (l : List Df) (k : Nat) : Nat → Prop where
  | base : Reach l k k
  | step {i j : Nat} (h : Reach l k i) (s : Succ l i j) : Reach l k j
theorem Reach.trans {l : List Df} {a b c : Nat} (h : Reach l a b) (g : Reach l b c) : Reach l a c := by
  induction g with
  | base => exact h
  | step _ s ih => exact ih.step s
theorem Reach.le {l : List Df} {a b : Nat} (h : Reach l a b) : b ≤ a := by
  induction h with
  | base => exact Nat.le_refl _
  | step _ s ih => have := s.1; omega
open Classical in
noncomputable def isR (l : List Df) (k j : Nat) : Bool := decide (Reach l k j)
theorem isR_iff {l : List Df} {k j : Nat} : isR l k j = true ↔ Reach l k j := by simp [isR]
noncomputable def needB (l : List Df) (k : Nat) : List Bool := (List.range l.length).map (isR l k)
def brows (m : List Bool) : List (List DV) := m.map fun b => [.bool b]
theorem brows_len (m : List Bool) : (brows m).length = m.length := by simp [brows]
theorem brows_get {m : List Bool} {i : Nat} {row : List DV} (h : (brows m)[i]? = some row) : ∃ b, m[i]? = some b ∧ row = [.bool b] := by
  simp only [brows, List.getElem?_map, Option.map_eq_some_iff] at h
  obtain ⟨b, h1, h2⟩ := h
  exact ⟨b, h1, h2.symm⟩
theorem brows_set (m : List Bool) (i : Nat) (b : Bool) : (brows m).set i [.bool b] = brows (m.set i b) := by simp [brows, List.map_set]

/-- What marking from i on does. -/
structure Marked (l : List Df) (i : Nat) (m m' : List Bool) : Prop where
  len : m'.length = m.length
  mono : ∀ j : Nat, m[j]? = some true → m'[j]? = some true
  self : m'[i]? = some true
  new : ∀ j : Nat, m'[j]? = some true → m[j]? = some true ∨ Reach l i j
  closed : ∀ j : Nat, m'[j]? = some true → m[j]? = some true ∨ ∀ s, Succ l j s → m'[s]? = some true
/-- While the names free in the definition at i are gone through. -/
structure Marking (l : List Df) (i : Nat) (names : List ByteArray) (m m' : List Bool) : Prop where
  len : m'.length = m.length
  mono : ∀ j : Nat, m[j]? = some true → m'[j]? = some true
  self : m'[i]? = some true
  new : ∀ j : Nat, m'[j]? = some true → m[j]? = some true ∨ Reach l i j
  closed : ∀ j : Nat, j ≠ i → m'[j]? = some true → m[j]? = some true ∨ ∀ s, Succ l j s → m'[s]? = some true
  some : ∀ (s : Nat) (e : Df), l[s]? = some e → s < i → e.name ∈ names → m'[s]? = some true
theorem Marking.start {l : List Df} {i : Nat} {m : List Bool} (hi : i < m.length) : Marking l i [] m (m.set i true) where
  len := by simp
  mono := fun j hj => by
    rw [List.getElem?_set]
    split
    · first | rfl | simp [hi]
    · exact hj
  self := by simp [hi]
  new := fun j hj => by
    rw [List.getElem?_set] at hj
    split at hj
    · rename_i e; subst e; exact .inr .base
    · exact .inl hj
  closed := fun j hne hj => by
    rw [List.getElem?_set, if_neg (Ne.symm hne)] at hj
    exact .inl hj
  some := fun s e _ _ h => by cases h
theorem Marking.skip {l : List Df} {i : Nat} {ns : List ByteArray} {n : ByteArray} {m m' : List Bool} (h : Marking l i ns m m') (hn : ∀ (s : Nat) (e : Df), l[s]? = Option.some e → s < i → e.name ≠ n) : Marking l i (ns ++ [n]) m m' :=
  ⟨h.len, h.mono, h.self, h.new, h.closed, fun s e he hs hm => by
    rcases List.mem_append.1 hm with hm | hm
    · exact h.some s e he hs hm
    · simp at hm; exact (hn s e he hs hm).elim⟩
theorem Marking.call {l : List Df} (hu : Uniq l) {i j : Nat} {ns : List ByteArray} {d e : Df} {m m' m'' : List Bool} (h : Marking l i ns m m') (hd : l[i]? = Option.some d) (he : l[j]? = Option.some e) (hj : j < i) (hf : e.name ∈ freeS d.tm) (g : Marked l j m' m'') : Marking l i (ns ++ [e.name]) m m'' where
  len := g.len.trans h.len
  mono := fun q hq => g.mono q (h.mono q hq)
  self := g.mono i h.self
  new := fun q hq => by
    rcases g.new q hq with hq | hq
    · exact h.new q hq
    · exact .inr ((Reach.base.step ⟨hj, d, e, hd, he, hf⟩).trans hq)
  closed := fun q hne hq => by
    rcases g.closed q hq with hq' | hq'
    · rcases h.closed q hne hq' with h1 | h1
      · exact .inl h1
      · exact .inr fun s hs => g.mono s (h1 s hs)
    · exact .inr hq'
  some := fun s e' he' hs hm => by
    rcases List.mem_append.1 hm with hm | hm
    · exact g.mono s (h.some s e' he' hs hm)
    · simp at hm
      have := hu s j e' e he' he hm
      subst this
      exact g.self
theorem Marking.done {l : List Df} {i : Nat} {d : Df} {m m' : List Bool} (hd : l[i]? = Option.some d) (h : Marking l i (freeS d.tm) m m') : Marked l i m m' where
  len := h.len
  mono := h.mono
  self := h.self
  new := h.new
  closed := fun j hj => by
    by_cases e : j = i
    · subst e
      right
      rintro s ⟨h1, d', e, h2, h3, h4⟩
      rw [hd] at h2; cases h2
      exact h.some s e h3 h1 h4
    · exact h.closed j e hj
theorem Marked.old {l : List Df} {i : Nat} {m : List Bool} (h : m[i]? = some true) : Marked l i m m := ⟨rfl, fun _ h => h, h, fun _ h => .inl h, fun _ h => .inl h⟩
theorem Marked.all {l : List Df} {k : Nat} {m' : List Bool} (h : Marked l k (List.replicate l.length false) m') : m' = needB l k := by
  have hno : ∀ j : Nat, (List.replicate l.length false)[j]? ≠ some true := fun j hj => by
    have := List.mem_of_getElem? hj
    simp at this
  have hr : ∀ j, Reach l k j → m'[j]? = some true := fun j hj => by
    induction hj with
    | base => exact h.self
    | step _ s ih =>
      rcases h.closed _ ih with h1 | h1
      · exact (hno _ h1).elim
      · exact h1 _ s
  have hl : m'.length = l.length := by rw [h.len]; simp
  refine List.ext_getElem? fun j => ?_
  simp only [needB, List.getElem?_map]
  by_cases hj : j < l.length
  · rw [List.getElem?_range hj]
    simp only [Option.map_some]
    cases hb : m'[j]? with
    | none => rw [List.getElem?_eq_none_iff] at hb; omega
    | some b =>
      congr 1
      cases b with
      | true =>
        rcases h.new j hb with h1 | h1
        · exact (hno _ h1).elim
        · exact (isR_iff.2 h1).symm
      | false =>
        cases hc : isR l k j with
        | false => rfl
        | true => rw [hr j (isR_iff.1 hc)] at hb; cases hb
  · rw [List.getElem?_eq_none (by omega), List.getElem?_eq_none (by simpa using hj)]; rfl
theorem obj1 (l : List Df) : ∃ ξ, [AObj.var [.d (.sl 0 15 (drows l))], .mp KK.str 0 [], .var [.mp 1]] = [AObj.var [.d (.sl 0 15 (drows l))], .mp KK.str 0 (encL (hv 0 (l.take 0))), .var [.mp 1]] ++ ξ := ⟨[], by rw [enc0]; rfl⟩
end Go.Proofs.YthmbncehoblgpaaDoor.E

/- Free names in the document's answer: a name in a list, a longer list. No conditions. -/
set_option linter.unusedVariables false
set_option linter.unusedSimpArgs false
namespace Go.Proofs.YthmbncehoblgpaaDoor.E
open Go

theorem strs_get {l : List ByteArray} {i : Nat} {row : List DV} (h : (strs l)[i]? = some row) : ∃ s, l[i]? = some s ∧ row = [.str s] := by
  simp only [strs, List.getElem?_map, Option.map_eq_some_iff] at h
  obtain ⟨s, h1, h2⟩ := h
  exact ⟨s, h1, h2.symm⟩
theorem strs_app (l m : List ByteArray) : strs (l ++ m) = strs l ++ strs m := by simp [strs]
def inF (l : List ByteArray) (s : ByteArray) : Bool := l.any fun t => decide (t = s)
theorem inF_iff {l : List ByteArray} {s : ByteArray} : inF l s = true ↔ s ∈ l := by
  simp only [inF, List.any_eq_true, decide_eq_true_eq]
  exact ⟨fun ⟨t, h, e⟩ => e ▸ h, fun h => ⟨s, h, rfl⟩⟩
theorem inF_not {l : List ByteArray} {s : ByteArray} : inF l s = false ↔ s ∉ l := by
  rw [← inF_iff]; simp
structure InI (l : List ByteArray) (s : ByteArray) where
  i : Nat
  hi : i ≤ l.length
  no : s ∉ l.take i
theorem InI.more {l : List ByteArray} {s t : ByteArray} {i : Nat} (h : s ∉ l.take i) (ht : l[i]? = some t) (hne : ¬ t = s) : s ∉ l.take (i + 1) := by
  rw [List.take_add_one, ht]
  simp only [Option.toList, List.mem_append, List.mem_singleton, not_or]
  exact ⟨h, fun e => hne e.symm⟩
end Go.Proofs.YthmbncehoblgpaaDoor.E

/- Walks: defs.needed and its closure. No conditions. -/
set_option linter.unusedVariables false
set_option linter.unusedSimpArgs false
namespace Go.Proofs.YthmbncehoblgpaaDoor.E
open Go

/-- What the closure sees. -/
def mObj (l : List Df) (m : List Bool) : List AObj :=
  [.var [.own 4 (brows m).length], .var [.d (.sl 0 15 (drows l))], .var [.mp 5], .var [.fn 28 [] [.ptr 0 0, .ptr 1 0, .ptr 2 0, .ptr 3 0]], .row 4 1 (brows m), .mp .str l.length (encL (hv 0 l))]
def MarkC (l : List Df) (i : Nat) : Prop := ∀ m : List Bool, m.length = l.length →
  ACall Tryd.prog 28 [.c (.d (.int .i64 i)), .c (.ptr 0 0), .c (.ptr 1 0), .c (.ptr 2 0), .c (.ptr 3 0)] (mObj l m) (fun o σ => o = .ret (.tup []) ∧ ∃ m', Marked l i m m' ∧ σ = mObj l m')
theorem freeS_len (t : Tm) : (freeS t).length ≤ 8192 := by
  unfold freeS
  split
  · rename_i h
    have h1 := fterm_len t ((0, []), (0, []))
    have := (tmcheck_ok h).1
    simp only [bsort_len, freeR, List.length_map]
    simp at h1
    omega
  · simp
structure MaI (l : List Df) (i : Nat) (names : List ByteArray) (m : List Bool) where
  q : Nat
  hq : q ≤ names.length
  m' : List Bool
  h : Marking l i (names.take q) m m'
set_option maxRecDepth 10000 in
theorem mark_call (l : List Df) (hl : l.length ≤ 256) (hu : Uniq l) (i : Nat) : i < l.length → MarkC l i := by
  induction i using Nat.strongRecOn with
  | _ i ih =>
  intro hi m hm
  obtain ⟨d, hd⟩ : ∃ d, l[i]? = some d := ⟨_, List.getElem?_eq_getElem hi⟩
  obtain ⟨b, hb⟩ : ∃ b, m[i]? = some b := ⟨_, List.getElem?_eq_getElem (by omega)⟩
  have hrow : (drows l)[i]? = some d.cells := by simp [drows, hd]
  have hbr : (brows m)[i]? = some [.bool b] := by simp [brows, hb]
  unfold mObj
  refine ACall.body tab_ok (ρ := 0) (N := 42) Tryd.func28 rfl rfl rfl rfl rfl ?_
  repeat' first | refine AW.seq ?_ | refine AW.block ?_ | ((first | refine AW.region tab_ok ?_ | refine AW.cond ?_ | refine AW.skip ?_ | refine AW.ret ?_ | refine AW.exit ?_); conv => whnf) | ((first | refine And.intro (@rfl Val _) ?_ | refine And.intro (by decide) ?_ | refine cs (fun _ => ?_) (fun _ => ?_)) <;> conv => whnf)
  have hbl := brows_len m
  refine ⟨⟨rfl, by omega, by omega⟩, ?_⟩
  conv => whnf
  repeat' first | refine AW.seq ?_ | refine AW.block ?_ | ((first | refine AW.region tab_ok ?_ | refine AW.cond ?_ | refine AW.skip ?_ | refine AW.ret ?_ | refine AW.exit ?_); conv => whnf) | ((first | refine And.intro (@rfl Val _) ?_ | refine And.intro (by decide) ?_ | refine cs (fun _ => ?_) (fun _ => ?_)) <;> conv => whnf)
  refine ⟨⟨rfl, by omega⟩, fun row hr => ?_⟩
  obtain rfl : row = [.bool b] := by rw [show ((i : Int)).toNat = i from rfl, hbr] at hr; exact (Option.some.inj hr).symm
  conv => whnf
  repeat' first | refine AW.seq ?_ | refine AW.block ?_ | ((first | refine AW.region tab_ok ?_ | refine AW.cond ?_ | refine AW.skip ?_ | refine AW.ret ?_ | refine AW.exit ?_); conv => whnf) | ((first | refine And.intro (@rfl Val _) ?_ | refine And.intro (by decide) ?_ | refine cs (fun _ => ?_) (fun _ => ?_)) <;> conv => whnf)
  · rename_i h
    exact ⟨rfl, m, Marked.old (by rw [hb, h]), rfl⟩
  clear hr
  refine ⟨⟨rfl, by omega, by omega⟩, ?_⟩
  conv => whnf
  repeat' first | refine AW.seq ?_ | refine AW.block ?_ | ((first | refine AW.region tab_ok ?_ | refine AW.cond ?_ | refine AW.skip ?_ | refine AW.ret ?_ | refine AW.exit ?_); conv => whnf) | ((first | refine And.intro (@rfl Val _) ?_ | refine And.intro (by decide) ?_ | refine cs (fun _ => ?_) (fun _ => ?_)) <;> conv => whnf)
  refine ⟨⟨rfl, by omega⟩, ?_⟩
  rw [show ((i : Int)).toNat = i from rfl, brows_set, show (brows m).length = (brows (m.set i true)).length by simp [brows_len]]
  have hst := Marking.start (l := l) (i := i) (m := m) (by omega)
  have hfin := fun (m' : List Bool) (h : Marking l i (freeS d.tm) m m') => h.done hd
  have c1 := tFree_call d.tm
  have hfl : (freeS d.tm).length ≤ 8192 := freeS_len d.tm
  have hcl := fun (j : Nat) (e : Df) ns m1 m2 he hj hf (h : Marking l i ns m m1) g => h.call (m'' := m2) hu (j := j) (e := e) hd he hj hf g
  obtain ⟨s, ⟨a, bs⟩, ⟨k, name, arg, num, tk, tks, uk, uks, label, place, ks⟩, pl⟩ := d
  simp only at hfin c1 hfl hcl
  generalize freeS (Tm.node k name arg num tk tks uk uks label place ks) = ns at *
  conv => whnf
  repeat' first | refine AW.seq ?_ | refine AW.block ?_ | ((first | refine AW.region tab_ok ?_ | refine AW.cond ?_ | refine AW.skip ?_ | refine AW.ret ?_ | refine AW.exit ?_); conv => whnf) | (refine (c1).mono ?_; rintro _ _ ⟨rfl, rfl⟩; conv => whnf) | ((first | refine And.intro (@rfl Val _) ?_ | refine And.intro (by decide) ?_ | refine cs (fun _ => ?_) (fun _ => ?_)) <;> conv => whnf)
  refine ⟨by rw [drows_len]; omega, fun row hr => ?_⟩
  obtain rfl := Option.some.inj (hrow.symm.trans hr)
  conv => whnf
  repeat' first | refine AW.seq ?_ | refine AW.block ?_ | ((first | refine AW.region tab_ok ?_ | refine AW.cond ?_ | refine AW.skip ?_ | refine AW.ret ?_ | refine AW.exit ?_); conv => whnf) | (refine (c1).mono ?_; rintro _ _ ⟨rfl, rfl⟩; conv => whnf) | ((first | refine And.intro (@rfl Val _) ?_ | refine And.intro (by decide) ?_ | refine cs (fun _ => ?_) (fun _ => ?_)) <;> conv => whnf)
  refine AW.loop (ι := MaI l i ns m) (fun x => ⟨42, [(23, .c (.d (.int .i64 x.q))), (22, .c (.d (.int .i64 (strs ns).length))), (21, .c (.d (.sl 0 1 (strs ns)))), (0, .c (.d (.int .i64 i))), (1, .c (.ptr 0 0)), (2, .c (.ptr 1 0)), (3, .c (.ptr 2 0)), (4, .c (.ptr 3 0))], mObj l x.m', []⟩)
    (fun x => ns.length - x.q) ⟨0, Nat.zero_le _, _, hst⟩ 6 (fun _ => rfl) (Nat.le_of_ble_eq_true rfl) ⟨⟨rfl, rfl, rfl, rfl, rfl, rfl, rfl, rfl, trivial⟩, rfl, rfl, ⟨[], rfl⟩, rfl⟩ (fun x => ?_)
  obtain ⟨q, hq, m1, h1⟩ := x
  unfold mObj
  repeat' first | refine AW.seq ?_ | refine AW.block ?_ | ((first | refine AW.region tab_ok ?_ | refine AW.cond ?_ | refine AW.skip ?_ | refine AW.ret ?_ | refine AW.exit ?_); conv => whnf) | ((first | refine And.intro (@rfl Val _) ?_ | refine And.intro (by decide) ?_ | refine cs (fun _ => ?_) (fun _ => ?_)) <;> conv => whnf)
  · rename_i h2
    simp only [strs_len] at h2 ⊢
    have := of_decide_eq_true h2
    refine ⟨by omega, fun row hr2 => ?_⟩
    obtain ⟨n, hn, rfl⟩ := strs_get (by simpa using hr2)
    have htk : ns.take (q + 1) = ns.take q ++ [n] := by rw [List.take_add_one, hn]; rfl
    have hlq : q < ns.length := (List.getElem?_eq_some_iff.1 hn).1
    have hml : m1.length = l.length := h1.len.trans hm
    have htv := tval_hv n l 0
    by_cases hz : nix n 0 l = 0
    · rw [hz] at htv
      have hsk := h1.skip (n := n) (fun s e he _ => nix_zero.1 hz e (List.mem_of_getElem? he))
      rw [← htk] at hsk
      conv => whnf
      repeat' first | ((refine mlook_of ?_; rw [htv]; conv => whnf)) | refine AW.seq ?_ | refine AW.block ?_ | ((first | refine AW.region tab_ok ?_ | refine AW.cond ?_ | refine AW.skip ?_ | refine AW.ret ?_ | refine AW.exit ?_); conv => whnf) | ((first | refine And.intro (@rfl Val _) ?_ | refine And.intro (by decide) ?_ | refine cs (fun _ => ?_) (fun _ => ?_)) <;> conv => whnf)
      rw [wrap64 (x := (q : Int) + 1) (by omega) (by omega)]
      exact ⟨⟨q + 1, hlq, m1, hsk⟩, ⟨⟨rfl, rfl, rfl, rfl, rfl, rfl, rfl, rfl, trivial⟩, rfl, rfl, ⟨[], rfl⟩, rfl⟩, show ns.length - (q + 1) < ns.length - q by omega⟩
    · obtain ⟨j, e, he, hen, hnx, hfst⟩ := nix_pos hz
      have hjl := (List.getElem?_eq_some_iff.1 he).1
      rw [hnx] at htv
      have hw : IntKind.i64.wrap (((0 : Nat) : Int) + (j : Int) + 1 - 1) = (j : Int) := by rw [wrap64 (by omega) (by omega)]; omega
      have hge : decide ((j : Int) ≥ 0) = true := by simp
      conv => whnf
      repeat' first | refine AW.seq ?_ | refine AW.block ?_ | ((first | refine AW.region tab_ok ?_ | refine AW.cond ?_ | refine AW.skip ?_ | refine AW.ret ?_ | refine AW.exit ?_); conv => whnf) | ((first | refine And.intro (@rfl Val _) ?_ | refine And.intro (by decide) ?_ | refine cs (fun _ => ?_) (fun _ => ?_)) <;> conv => whnf)
      refine mlook_of ?_
      rw [htv]
      conv => whnf
      rw [hw]
      by_cases hji : j < i
      · have hlt : decide ((j : Int) < (i : Int)) = true := by simp [hji]
        repeat' first | ((rw [hge]; conv => whnf)) | ((rw [hlt]; conv => whnf)) | ((refine (ih j hji hjl m1 hml).mono ?_; rintro _ _ ⟨rfl, m2, hm2, rfl⟩; conv => whnf)) | refine AW.seq ?_ | refine AW.block ?_ | ((first | refine AW.region tab_ok ?_ | refine AW.cond ?_ | refine AW.skip ?_ | refine AW.ret ?_ | refine AW.exit ?_); conv => whnf) | ((first | refine And.intro (@rfl Val _) ?_ | refine And.intro (by decide) ?_ | refine cs (fun _ => ?_) (fun _ => ?_)) <;> conv => whnf)
        have hnx2 := hcl j e _ m1 m2 he hji (by rw [hen]; exact List.mem_of_getElem? hn) h1 hm2
        rw [hen, ← htk] at hnx2
        rw [wrap64 (x := (q : Int) + 1) (by omega) (by omega)]
        exact ⟨⟨q + 1, hlq, m2, hnx2⟩, ⟨⟨rfl, rfl, rfl, rfl, rfl, rfl, rfl, rfl, trivial⟩, rfl, rfl, ⟨[], rfl⟩, rfl⟩, show ns.length - (q + 1) < ns.length - q by omega⟩
      · have hlt : decide ((j : Int) < (i : Int)) = false := by simp; omega
        have hsk := h1.skip (n := n) (fun s e' he' hs hnn => by have := hu s j e' e he' he (hnn.trans hen.symm); omega)
        rw [← htk] at hsk
        repeat' first | ((rw [hge]; conv => whnf)) | ((rw [hlt]; conv => whnf)) | refine AW.seq ?_ | refine AW.block ?_ | ((first | refine AW.region tab_ok ?_ | refine AW.cond ?_ | refine AW.skip ?_ | refine AW.ret ?_ | refine AW.exit ?_); conv => whnf) | ((first | refine And.intro (@rfl Val _) ?_ | refine And.intro (by decide) ?_ | refine cs (fun _ => ?_) (fun _ => ?_)) <;> conv => whnf)
        rw [wrap64 (x := (q : Int) + 1) (by omega) (by omega)]
        exact ⟨⟨q + 1, hlq, m1, hsk⟩, ⟨⟨rfl, rfl, rfl, rfl, rfl, rfl, rfl, rfl, trivial⟩, rfl, rfl, ⟨[], rfl⟩, rfl⟩, show ns.length - (q + 1) < ns.length - q by omega⟩
  · rename_i h2
    simp only [strs_len] at h2
    have := of_decide_eq_false h2
    rw [List.take_of_length_le (by omega)] at h1
    exact ⟨rfl, m1, hfin m1 h1, rfl⟩
structure NeI (l : List Df) where
  i : Nat
  hi : i ≤ l.length
set_option maxRecDepth 10000 in
theorem needed_call (l : List Df) (k : Nat) (hk : k < l.length) (hl : l.length ≤ 256) (hnd : Uniq l) : ACall Tryd.prog 12 [.c (.d (.sl 0 15 (drows l))), .c (.d (.int .i64 k))] [] (fun o σ => o = .ret (.c (.d (.sl 0 1 (brows (needB l k))))) ∧ σ = []) := by
  refine ACall.body tab_ok (ρ := 0) (N := 32) Tryd.func12 rfl rfl rfl rfl rfl ?_
  repeat' first | refine AW.seq ?_ | refine AW.block ?_ | ((first | refine AW.region tab_ok ?_ | refine AW.cond ?_ | refine AW.skip ?_ | refine AW.ret ?_ | refine AW.exit ?_); conv => whnf) | ((first | refine And.intro (@rfl Val _) ?_ | refine And.intro (by decide) ?_ | refine cs (fun _ => ?_) (fun _ => ?_)) <;> conv => whnf)
  refine AW.loop (ι := NeI l) (fun x => ⟨32, [(13, .c (.d (.int .i64 x.i))), (12, .c (.d (.int .i64 (drows l).length))), (11, .c (.d (.sl 0 15 (drows l)))), (5, .c (.ptr 2 0)), (2, .c (.ptr 0 0)), (1, .c (.d (.int .i64 k)))], [.var [.d (.sl 0 15 (drows l))], .mp .str x.i (encL (hv 0 (l.take x.i))), .var [.mp 1]], []⟩)
    (fun x => l.length - x.i) ⟨0, Nat.zero_le _⟩ 3 (fun _ => rfl) (Nat.le_of_ble_eq_true rfl) ⟨⟨rfl, rfl, rfl, rfl, rfl, rfl, trivial⟩, rfl, rfl, obj1 l, rfl⟩ (fun x => ?_)
  obtain ⟨i, hi⟩ := x
  repeat' first | refine AW.seq ?_ | refine AW.block ?_ | ((first | refine AW.region tab_ok ?_ | refine AW.cond ?_ | refine AW.skip ?_ | refine AW.ret ?_ | refine AW.exit ?_); conv => whnf) | ((first | refine And.intro (@rfl Val _) ?_ | refine And.intro (by decide) ?_ | refine cs (fun _ => ?_) (fun _ => ?_)) <;> conv => whnf)
  · rename_i h1
    simp only [drows_len] at h1 ⊢
    have := of_decide_eq_true h1
    refine ⟨by omega, fun row hrow => ?_⟩
    obtain ⟨d, hd, rfl⟩ := drows_get (by simpa using hrow)
    have hlt : i < l.length := (List.getElem?_eq_some_iff.1 hd).1
    have hs := take_snoc hd
    have h0 := hnd.fresh hd
    have hlt2 : (l.take i).length = i := by simp; omega
    obtain ⟨s, ⟨a, bs⟩, ⟨q, name, arg, num, tk, tks, uk, uks, label, place, ks⟩, pl⟩ := d
    have hput := tput_hv (d := ⟨s, .node a bs, .node q name arg num tk tks uk uks label place ks, pl⟩) hlt2.symm rfl h0 ((i : Int) + 1) rfl
    rw [← hs] at hput
    simp only at hput
    conv => whnf
    repeat' first | ((refine mput_of ?_; conv => whnf)) | refine AW.seq ?_ | refine AW.block ?_ | ((first | refine AW.region tab_ok ?_ | refine AW.cond ?_ | refine AW.skip ?_ | refine AW.ret ?_ | refine AW.exit ?_); conv => whnf) | ((first | refine And.intro (@rfl Val _) ?_ | refine And.intro (by decide) ?_ | refine cs (fun _ => ?_) (fun _ => ?_)) <;> conv => whnf)
    rw [wrap64 (x := (i : Int) + 1) (by omega) (by omega), hput]
    exact ⟨⟨i + 1, hlt⟩, ⟨⟨rfl, rfl, rfl, rfl, rfl, rfl, trivial⟩, rfl, rfl, ⟨_, rfl⟩, rfl⟩, show l.length - (i + 1) < l.length - i by omega⟩
  · rename_i h1
    simp only [drows_len] at h1
    have := of_decide_eq_false h1
    obtain rfl : i = l.length := by omega
    repeat' first | refine AW.seq ?_ | refine AW.block ?_ | ((first | refine AW.region tab_ok ?_ | refine AW.cond ?_ | refine AW.skip ?_ | refine AW.ret ?_ | refine AW.exit ?_); conv => whnf) | ((first | refine And.intro (@rfl Val _) ?_ | refine And.intro (by decide) ?_ | refine cs (fun _ => ?_) (fun _ => ?_)) <;> conv => whnf)
    rw [drows_len]
    refine ⟨⟨by omega, by omega, by simp only; omega, by omega⟩, ?_⟩
    conv => whnf
    repeat' first | refine AW.seq ?_ | refine AW.block ?_ | ((first | refine AW.region tab_ok ?_ | refine AW.cond ?_ | refine AW.skip ?_ | refine AW.ret ?_ | refine AW.exit ?_); conv => whnf) | ((first | refine And.intro (@rfl Val _) ?_ | refine And.intro (by decide) ?_ | refine cs (fun _ => ?_) (fun _ => ?_)) <;> conv => whnf)
    have e1 : List.replicate (((l.length : Nat) : Int)).toNat [DV.bool false] = brows (List.replicate l.length false) := by simp [brows]
    have e2 : (((l.length : Nat) : Int)).toNat = (brows (List.replicate l.length false)).length := by simp [brows]
    have e3 : hv 0 (l.take l.length) = hv 0 l := by rw [List.take_length]
    have hmc := mark_call l hl hnd k hk (List.replicate l.length false) (by simp)
    unfold mObj at hmc
    rw [← e3, ← e2, ← e1] at hmc
    refine hmc.mono ?_
    rintro _ _ ⟨rfl, m', hm', rfl⟩
    obtain rfl := hm'.all
    generalize needB l k = m'
    conv => whnf
    repeat' first | refine AW.seq ?_ | refine AW.block ?_ | ((first | refine AW.region tab_ok ?_ | refine AW.cond ?_ | refine AW.skip ?_ | refine AW.ret ?_ | refine AW.exit ?_); conv => whnf) | ((first | refine And.intro (@rfl Val _) ?_ | refine And.intro (by decide) ?_ | refine cs (fun _ => ?_) (fun _ => ?_)) <;> conv => whnf)
    refine ⟨rfl, ?_⟩
    conv => whnf
    exact ⟨rfl, rfl⟩
end Go.Proofs.YthmbncehoblgpaaDoor.E

/- Free names in the document's answer: free. No conditions. -/
set_option linter.unusedVariables false
set_option linter.unusedSimpArgs false
namespace Go.Proofs.YthmbncehoblgpaaDoor.E
open Go

end Go.Proofs.YthmbncehoblgpaaDoor.E

/- Free names in the document's answer: Free, sorted in place. No conditions. -/
set_option linter.unusedVariables false
set_option linter.unusedSimpArgs false
namespace Go.Proofs.YthmbncehoblgpaaDoor.E
open Go

/-- A row: an element by number. -/
def at' (X : List ByteArray) (a : Nat) : ByteArray := X.getD a ⟨#[]⟩
def swap (X : List ByteArray) (j : Nat) : List ByteArray := (X.set j (at' X (j - 1))).set (j - 1) (at' X j)
theorem swap_at {X : List ByteArray} {j : Nat} (hj : 0 < j) (hl : j < X.length) (a : Nat) : at' (swap X j) a = if a = j - 1 then at' X j else if a = j then at' X (j - 1) else at' X a := by
  unfold swap at'
  rw [List.getD_eq_getElem?_getD, List.getElem?_set]
  by_cases h1 : a = j - 1
  · subst h1
    rw [if_pos rfl, if_pos rfl, if_pos (by simp; omega)]; rfl
  · rw [if_neg (fun e => h1 e.symm), if_neg h1, List.getElem?_set]
    by_cases h2 : a = j
    · subst h2
      rw [if_pos rfl, if_pos rfl, if_pos hl]; rfl
    · rw [if_neg (fun e => h2 e.symm), if_neg h2]; simp
theorem swap_perm {X : List ByteArray} {j : Nat} (hj : 0 < j) (hl : j < X.length) : (swap X j).Perm X := by
  obtain ⟨i, rfl⟩ : ∃ i, j = i + 1 := ⟨j - 1, by omega⟩
  have key : ∀ (X : List ByteArray) (i : Nat), i + 1 < X.length → (swap X (i + 1)).Perm X := by
    intro X
    induction X with
    | nil => intro i h; simp at h
    | cons x X ih =>
      intro i h
      cases i with
      | zero =>
        match X, h with
        | y :: Y, _ => simpa [swap, at'] using List.Perm.swap x y Y
      | succ i =>
        have := ih i (by simpa using h)
        have e : swap (x :: X) (i + 1 + 1) = x :: swap X (i + 1) := by
          simp [swap, at']
        rw [e]
        exact List.Perm.cons x this
  exact key X i hl

structure SortI (L : List ByteArray) (i : Nat) where
  X : List ByteArray
  j : Nat
  p : X.Perm L
  hj : j ≤ i
  srt : ∀ a b, a < b → b ≤ i → b ≠ j → bytesLe (at' X a) (at' X b)
theorem le_trans' {a b c : ByteArray} (h : bytesLe a b) (g : bytesLe b c) : bytesLe a c := List.le_trans h g
def SortI.next {L : List ByteArray} {i : Nat} (x : SortI L i) (hi : i < L.length) (h0 : 0 < x.j) (h : bytesLe (at' x.X x.j) (at' x.X (x.j - 1))) : SortI L i where
  X := swap x.X x.j
  j := x.j - 1
  p := (swap_perm h0 (by rw [x.p.length_eq]; have := x.hj; omega)).trans x.p
  hj := by have := x.hj; omega
  srt := fun a b hab hb hne => by
    have hj := x.hj
    have hl : x.j < x.X.length := by rw [x.p.length_eq]; omega
    rw [swap_at h0 hl, swap_at h0 hl, if_neg hne]
    by_cases e1 : b = x.j
    · rw [if_pos e1]
      by_cases e2 : a = x.j - 1
      · rw [if_pos e2]; exact h
      · rw [if_neg e2, if_neg (by omega)]; exact x.srt a (x.j - 1) (by omega) (by omega) (by omega)
    · rw [if_neg e1]
      by_cases e2 : a = x.j - 1
      · rw [if_pos e2]; exact x.srt x.j b (by omega) hb e1
      · by_cases e3 : a = x.j
        · rw [if_neg e2, if_pos e3]; exact x.srt (x.j - 1) b (by omega) hb e1
        · rw [if_neg e2, if_neg e3]; exact x.srt a b hab hb e1
theorem SortI.done {L : List ByteArray} {i : Nat} (x : SortI L i) (h : x.j = 0 ∨ bytesLe (at' x.X (x.j - 1)) (at' x.X x.j)) : ∀ a b, a < b → b < i + 1 → bytesLe (at' x.X a) (at' x.X b) := fun a b hab hb => by
  by_cases e : b = x.j
  · rcases h with h | h
    · omega
    · rw [e]
      by_cases e2 : a = x.j - 1
      · rw [e2]; exact h
      · exact le_trans' (x.srt a (x.j - 1) (by omega) (by have := x.hj; omega) (by omega)) h
  · exact x.srt a b hab (by omega) e
end Go.Proofs.YthmbncehoblgpaaDoor.E

/- Free names: both answers are the same; the law. No conditions. -/
set_option linter.unusedVariables false
set_option linter.unusedSimpArgs false
namespace Go.Proofs.YthmbncehoblgpaaDoor.E
open Go

/-! ### Maps as functions -/
def tv (s : ByteArray) : TL → Option Int
  | [] => none
  | (_, k, v) :: l => if s = k then some v else tv s l
theorem tget_tv (s : ByteArray) : ∀ (l : TL) (i : Nat), (tget s l i).map (·.2) = tv s l
  | [], i => rfl
  | (c, k, v) :: l, i => by
    simp only [tget, tv]
    split
    · rfl
    · exact tget_tv s l (i + 1)
theorem tval_tv (s : ByteArray) (l : TL) : tval s l = (tv s l).getD 0 := by
  rw [← tget_tv s l 0]
  unfold tval
  cases tget s l 0 <;> rfl
theorem tv_none {s : ByteArray} : ∀ {l : TL}, tv s l = none ↔ s ∉ l.map (·.2.1)
  | [] => by simp [tv]
  | (c, k, v) :: l => by
    simp only [tv, List.map_cons, List.mem_cons, not_or]
    split
    · rename_i e; simp [e]
    · rename_i e; rw [tv_none (l := l)]; exact ⟨fun h => ⟨e, h⟩, fun h => h.2⟩
theorem tv_app (s : ByteArray) (x : Nat × ByteArray × Int) : ∀ l : TL, tv s (l ++ [x]) = (tv s l).or (if s = x.2.1 then some x.2.2 else none)
  | [] => by obtain ⟨c, k, v⟩ := x; simp [tv]
  | (c, k, v) :: l => by
    simp only [List.cons_append, tv]
    split
    · rfl
    · exact tv_app s x l
theorem tv_tset (s s' : ByteArray) (v : Int) : ∀ (l : TL) (i k : Nat) (u : Int), tget s l i = some (i + k, u) → tv s' (tset k v l) = if s' = s then some v else tv s' l
  | [], i, k, u, h => by simp [tget] at h
  | (c, q, w) :: l, i, k, u, h => by
    simp only [tget] at h
    split at h
    · rename_i e
      simp only [Option.some.injEq, Prod.mk.injEq] at h
      obtain rfl : k = 0 := by omega
      subst e
      simp only [tset, tv]
      split <;> rfl
    · rename_i e
      obtain ⟨n, hn, _⟩ := tget_some h
      obtain rfl : k = n + 1 := by omega
      simp only [tset, tv]
      have ih := tv_tset s s' v l (i + 1) n u (by rw [h]; congr 2 <;> omega)
      split
      · rename_i e2
        subst e2
        rw [if_neg (fun e3 => e e3.symm)]
      · exact ih
theorem tv_erase (s s' : ByteArray) : ∀ (l : TL) (i k : Nat) (u : Int), (l.map (·.2.1)).Nodup → tget s l i = some (i + k, u) → tv s' (l.eraseIdx k) = if s' = s then none else tv s' l
  | [], i, k, u, _, h => by simp [tget] at h
  | (c, q, w) :: l, i, k, u, hn, h => by
    simp only [List.map_cons, List.nodup_cons] at hn
    simp only [tget] at h
    split at h
    · rename_i e
      simp only [Option.some.injEq, Prod.mk.injEq] at h
      obtain rfl : k = 0 := by omega
      subst e
      simp only [List.eraseIdx_zero, List.tail_cons, tv]
      split
      · rename_i e2; subst e2; exact tv_none.2 hn.1
      · rfl
    · rename_i e
      obtain ⟨n, hn', _⟩ := tget_some h
      obtain rfl : k = n + 1 := by omega
      simp only [List.eraseIdx_cons_succ, tv]
      have ih := tv_erase s s' l (i + 1) n u hn.2 (by rw [h]; congr 2 <;> omega)
      split
      · rename_i e2
        subst e2
        rw [if_neg (fun e3 => e e3.symm)]
      · exact ih
theorem tv_tput (s s' : ByteArray) (v : Int) (m : Nat × TL) : tv s' (tput s v m).2 = if s' = s then some v else tv s' m.2 := by
  unfold tput
  cases hg : tget s m.2 0 with
  | some x =>
    obtain ⟨j, u⟩ := x
    exact tv_tset s s' v m.2 0 j u (by simpa using hg)
  | none =>
    have hn : tv s m.2 = none := by rw [← tget_tv s m.2 0, hg]; rfl
    simp only [tv_app]
    split
    · rename_i e; subst e; rw [hn]; rfl
    · simp
theorem tv_tdel (s s' : ByteArray) {l : TL} (hn : (l.map (·.2.1)).Nodup) : tv s' (tdel s l) = if s' = s then none else tv s' l := by
  unfold tdel
  cases hg : tget s l 0 with
  | some x =>
    obtain ⟨j, u⟩ := x
    exact tv_erase s s' l 0 j u hn (by simpa using hg)
  | none =>
    have hn : tv s l = none := by rw [← tget_tv s l 0, hg]; rfl
    show tv s' l = _
    by_cases e : s' = s
    · subst e; rw [if_pos rfl]; exact hn
    · rw [if_neg e]
theorem tval_tput (s s' : ByteArray) (v : Int) (m : Nat × TL) : tval s' (tput s v m).2 = if s' = s then v else tval s' m.2 := by
  rw [tval_tv, tv_tput, tval_tv]; split <;> rfl
theorem tval_tdel (s s' : ByteArray) {l : TL} (hn : (l.map (·.2.1)).Nodup) : tval s' (tdel s l) = if s' = s then 0 else tval s' l := by
  rw [tval_tv, tv_tdel s s' hn, tval_tv]; split <;> rfl
/-! ### Both walks -/
def cnt (s : ByteArray) (b : List ByteArray) : Nat := b.countP fun t => decide (t = s)
theorem cnt_app (s a : ByteArray) (b : List ByteArray) : cnt s (b ++ [a]) = cnt s b + if a = s then 1 else 0 := by
  unfold cnt
  rw [List.countP_append, List.countP_singleton]
  by_cases h : a = s <;> simp [h]
theorem cnt_len (s : ByteArray) (b : List ByteArray) : cnt s b ≤ b.length := List.countP_le_length
structure Rel (m : FM) (b l : List ByteArray) : Prop where
  wf : WfF m
  bnd : ∀ s, tval s m.1.2 = (cnt s b : Int)
  fre : ∀ s, s ∈ m.2.2.map (·.2.1) ↔ s ∈ l
  nd : l.Nodup
theorem Rel.inn {m : FM} {b l : List ByteArray} (h : Rel m b l) (s : ByteArray) (hb : b.length ≤ 1000000) : Rel (finn s m) (b ++ [s]) l :=
  ⟨⟨tput_wf h.wf.1, h.wf.2⟩, fun s' => by
    have hc := cnt_len s b
    simp only [finn, tval_tput, cnt_app, h.bnd]
    rw [wrap64 (by omega) (by omega)]
    by_cases e : s' = s
    · subst e; simp
    · rw [if_neg e, if_neg (fun e2 => e e2.symm)]; simp, h.fre, h.nd⟩
theorem Rel.dec {m : FM} {b l : List ByteArray} {s : ByteArray} (h : Rel m (b ++ [s]) l) (hb : b.length ≤ 1000000) : Rel (fdec s m) b l :=
  ⟨⟨tput_wf h.wf.1, h.wf.2⟩, fun s' => by
    have hc := cnt_len s b
    have h1 := h.bnd s
    have h2 := h.bnd s'
    rw [cnt_app] at h1 h2
    rw [if_pos rfl] at h1
    simp only [fdec, tval_tput, h1]
    rw [wrap64 (by omega) (by omega)]
    by_cases e : s' = s
    · subst e; simp
    · rw [if_neg e, h2, if_neg (fun e2 => e e2.symm)]; simp, h.fre, h.nd⟩
theorem Rel.out {m : FM} {b l : List ByteArray} {s : ByteArray} (h : Rel m (b ++ [s]) l) (hb : b.length ≤ 1000000) : Rel (fout s m) b l := by
  have hd := h.dec hb
  unfold fout
  split
  · rename_i h0
    refine ⟨⟨tdel_wf hd.wf.1, hd.wf.2⟩, fun s' => ?_, hd.fre, hd.nd⟩
    simp only [tval_tdel s s' hd.wf.1.keys]
    split
    · rename_i e; subst e; rw [← hd.bnd s']; exact h0.symm
    · exact hd.bnd s'
  · exact hd
theorem Rel.win {m : FM} {b l : List ByteArray} (h : Rel m b l) (w : List ByteArray) (hw : w.length ≤ 2) (hb : b.length ≤ 900000) : Rel (E.win w m) (b ++ w) l := by
  match w, hw with
  | [], _ => simpa [E.win] using h
  | [s], _ => exact h.inn s (by omega)
  | [s, a], _ =>
    have := (h.inn s (by omega)).inn a (by simp; omega)
    simpa [E.win] using this
theorem Rel.wout {m : FM} {b l : List ByteArray} (w : List ByteArray) (hw : w.length ≤ 2) (hb : b.length ≤ 900000) (h : Rel m (b ++ w) l) : Rel (E.wout w m) b l := by
  match w, hw with
  | [], _ => simpa [E.wout] using h
  | [s], _ => exact h.out (by omega)
  | [s, a], _ =>
    have h' : Rel m ((b ++ [s]) ++ [a]) l := by simpa using h
    exact (h'.out (by simp; omega)).dec (by omega)
/-! ### The law -/
end Go.Proofs.YthmbncehoblgpaaDoor.E

/- Walks: the document's needed. No conditions. -/
set_option linter.unusedVariables false
set_option linter.unusedSimpArgs false
namespace Go.Proofs.YthmbncehoblgpaaDoor.E
open Go

/-- All from n on are gone through. -/
structure Proc (l : List Df) (k n : Nat) (m : List Bool) : Prop where
  len : m.length = l.length
  self : m[k]? = some true
  new : ∀ j : Nat, m[j]? = some true → Reach l k j
  closed : ∀ j : Nat, n ≤ j → m[j]? = some true → ∀ s, Succ l j s → m[s]? = some true
/-- While that at i is gone through, as far as j. -/
structure ProcI (l : List Df) (k i j : Nat) (m : List Bool) : Prop where
  base : Proc l k (i + 1) m
  on : m[i]? = some true
  got : ∀ (s : Nat) (d e : Df), s < j → l[i]? = Option.some d → l[s]? = Option.some e → s < i → e.name ∈ freeS d.tm → m[s]? = Option.some true
theorem Proc.start {l : List Df} {k : Nat} (hk : k < l.length) : Proc l k (k + 1) ((List.replicate l.length false).set k true) := by
  have hno : ∀ j : Nat, (List.replicate l.length false)[j]? ≠ some true := fun j hj => by
    have := List.mem_of_getElem? hj
    simp at this
  have hat : ∀ j : Nat, ((List.replicate l.length false).set k true)[j]? = some true → j = k := fun j hj => by
    rw [List.getElem?_set] at hj
    split at hj
    · rename_i e; exact e.symm
    · exact (hno _ hj).elim
  refine ⟨by simp, by simp [hk], fun j hj => ?_, fun j hn hj => ?_⟩
  · obtain rfl := hat j hj; exact .base
  · have := hat j hj; omega
theorem Proc.skip {l : List Df} {k i : Nat} {m : List Bool} (h : Proc l k (i + 1) m) (hi : m[i]? = some false) : Proc l k i m :=
  ⟨h.len, h.self, h.new, fun j hn hj => by
    by_cases e : j = i
    · subst e; rw [hi] at hj; cases hj
    · exact h.closed j (by omega) hj⟩
theorem ProcI.done {l : List Df} {k i : Nat} {m : List Bool} (h : ProcI l k i i m) : Proc l k i m :=
  ⟨h.base.len, h.base.self, h.base.new, fun j hn hj => by
    by_cases e : j = i
    · subst e
      rintro s ⟨h1, d, e, h2, h3, h4⟩
      exact h.got s d e h1 h2 h3 h1 h4
    · exact h.base.closed j (by omega) hj⟩
theorem ProcI.skip {l : List Df} {k i j : Nat} {m : List Bool} {d e : Df} (h : ProcI l k i j m) (hd : l[i]? = some d) (he : l[j]? = some e) (hn : e.name ∉ freeS d.tm) : ProcI l k i (j + 1) m :=
  ⟨h.base, h.on, fun s d' e' hs hd' he' hsi hf => by
    by_cases e : s = j
    · subst e
      rw [hd] at hd'; rw [he] at he'; cases hd'; cases he'
      exact (hn hf).elim
    · exact h.got s d' e' (by omega) hd' he' hsi hf⟩
theorem ProcI.put {l : List Df} {k i j : Nat} {m : List Bool} {d e : Df} (h : ProcI l k i j m) (hj : j < i) (hi : i < l.length) (hd : l[i]? = some d) (he : l[j]? = some e) (hn : e.name ∈ freeS d.tm) : ProcI l k i (j + 1) (m.set j true) := by
  have hjl : j < m.length := by rw [h.base.len]; omega
  have hmono : ∀ q : Nat, m[q]? = some true → (m.set j true)[q]? = some true := fun q hq => by
    rw [List.getElem?_set]
    split
    · first | rfl | simp [hjl]
    · exact hq
  have hold : ∀ q : Nat, (m.set j true)[q]? = some true → q = j ∨ m[q]? = some true := fun q hq => by
    rw [List.getElem?_set] at hq
    split at hq
    · rename_i e; exact .inl e.symm
    · exact .inr hq
  refine ⟨⟨by simp [h.base.len], hmono _ h.base.self, fun q hq => ?_, fun q hn' hq s hs => ?_⟩, hmono _ h.on, fun s d' e' hs hd' he' hsi hf => ?_⟩
  · rcases hold q hq with rfl | hq
    · exact (h.base.new i h.on).step ⟨hj, d, e, hd, he, hn⟩
    · exact h.base.new q hq
  · rcases hold q hq with rfl | hq
    · omega
    · exact hmono _ (h.base.closed q hn' hq s hs)
  · by_cases es : s = j
    · subst es; simp [hjl]
    · exact hmono _ (h.got s d' e' (by omega) hd' he' hsi hf)
theorem Proc.all {l : List Df} {k : Nat} {m : List Bool} (h : Proc l k 0 m) : m = needB l k := by
  have hr : ∀ j, Reach l k j → m[j]? = some true := fun j hj => by
    induction hj with
    | base => exact h.self
    | step _ s ih => exact h.closed _ (Nat.zero_le _) ih _ s
  have hl := h.len
  refine List.ext_getElem? fun j => ?_
  simp only [needB, List.getElem?_map]
  by_cases hj : j < l.length
  · rw [List.getElem?_range hj]
    simp only [Option.map_some]
    cases hb : m[j]? with
    | none => rw [List.getElem?_eq_none_iff] at hb; omega
    | some b =>
      congr 1
      cases b with
      | true => exact (isR_iff.2 (h.new j hb)).symm
      | false =>
        cases hc : isR l k j with
        | false => rfl
        | true => rw [hr j (isR_iff.1 hc)] at hb; cases hb
  · rw [List.getElem?_eq_none (by omega), List.getElem?_eq_none (by simpa using hj)]; rfl

end Go.Proofs.YthmbncehoblgpaaDoor.E

/- Walks: the document's sound. No conditions. -/
set_option linter.unusedVariables false
set_option linter.unusedSimpArgs false
namespace Go.Proofs.YthmbncehoblgpaaDoor.E
open Go

end Go.Proofs.YthmbncehoblgpaaDoor.E
