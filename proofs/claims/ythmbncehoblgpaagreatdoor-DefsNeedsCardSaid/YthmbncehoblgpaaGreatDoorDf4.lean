/- Walks: the document's needed. No conditions. -/
import Derived.Test.YthmbncehoblgpaaGreatDoorDf3
import Derived.Test.YthmbncehoblgpaaGreatDoorFr6
set_option linter.unusedVariables false
set_option linter.unusedSimpArgs false
namespace Go.Proofs.YthmbncehoblgpaaGreatDoor.E
open Go

/-- All from n on are gone through. -/
structure Proc (l : List Df) (k n : Nat) (m : List Bool) : Prop where
  len : m.length = l.length
  self : m[k]? = some true
  new : ∀ j : Nat, m[j]? = some true → Reach l k j
  closed : ∀ j : Nat, n ≤ j → m[j]? = some true → ∀ s, Succ l j s → m[s]? = some true
/-- While that at i is gone through, as far as j. -/
structure ProcI (l : List Df) (k i j : Nat) (m : List Bool) : Prop where
  base : Proc l k (i + 1) m
  on : m[i]? = some true
  got : ∀ (s : Nat) (d e : Df), s < j → l[i]? = Option.some d → l[s]? = Option.some e → s < i → e.name ∈ freeS d.tm → m[s]? = Option.some true
theorem Proc.start {l : List Df} {k : Nat} (hk : k < l.length) : Proc l k (k + 1) ((List.replicate l.length false).set k true) := by
  have hno : ∀ j : Nat, (List.replicate l.length false)[j]? ≠ some true := fun j hj => by
    have := List.mem_of_getElem? hj
    simp at this
  have hat : ∀ j : Nat, ((List.replicate l.length false).set k true)[j]? = some true → j = k := fun j hj => by
    rw [List.getElem?_set] at hj
    split at hj
    · rename_i e; exact e.symm
    · exact (hno _ hj).elim
  refine ⟨by simp, by simp [hk], fun j hj => ?_, fun j hn hj => ?_⟩
  · obtain rfl := hat j hj; exact .base
  · have := hat j hj; omega
theorem Proc.skip {l : List Df} {k i : Nat} {m : List Bool} (h : Proc l k (i + 1) m) (hi : m[i]? = some false) : Proc l k i m :=
  ⟨h.len, h.self, h.new, fun j hn hj => by
    by_cases e : j = i
    · subst e; rw [hi] at hj; cases hj
    · exact h.closed j (by omega) hj⟩
theorem ProcI.done {l : List Df} {k i : Nat} {m : List Bool} (h : ProcI l k i i m) : Proc l k i m :=
  ⟨h.base.len, h.base.self, h.base.new, fun j hn hj => by
    by_cases e : j = i
    · subst e
      rintro s ⟨h1, d, e, h2, h3, h4⟩
      exact h.got s d e h1 h2 h3 h1 h4
    · exact h.base.closed j (by omega) hj⟩
theorem ProcI.skip {l : List Df} {k i j : Nat} {m : List Bool} {d e : Df} (h : ProcI l k i j m) (hd : l[i]? = some d) (he : l[j]? = some e) (hn : e.name ∉ freeS d.tm) : ProcI l k i (j + 1) m :=
  ⟨h.base, h.on, fun s d' e' hs hd' he' hsi hf => by
    by_cases e : s = j
    · subst e
      rw [hd] at hd'; rw [he] at he'; cases hd'; cases he'
      exact (hn hf).elim
    · exact h.got s d' e' (by omega) hd' he' hsi hf⟩
theorem ProcI.put {l : List Df} {k i j : Nat} {m : List Bool} {d e : Df} (h : ProcI l k i j m) (hj : j < i) (hi : i < l.length) (hd : l[i]? = some d) (he : l[j]? = some e) (hn : e.name ∈ freeS d.tm) : ProcI l k i (j + 1) (m.set j true) := by
  have hjl : j < m.length := by rw [h.base.len]; omega
  have hmono : ∀ q : Nat, m[q]? = some true → (m.set j true)[q]? = some true := fun q hq => by
    rw [List.getElem?_set]
    split
    · first | rfl | simp [hjl]
    · exact hq
  have hold : ∀ q : Nat, (m.set j true)[q]? = some true → q = j ∨ m[q]? = some true := fun q hq => by
    rw [List.getElem?_set] at hq
    split at hq
    · rename_i e; exact .inl e.symm
    · exact .inr hq
  refine ⟨⟨by simp [h.base.len], hmono _ h.base.self, fun q hq => ?_, fun q hn' hq s hs => ?_⟩, hmono _ h.on, fun s d' e' hs hd' he' hsi hf => ?_⟩
  · rcases hold q hq with rfl | hq
    · exact (h.base.new i h.on).step ⟨hj, d, e, hd, he, hn⟩
    · exact h.base.new q hq
  · rcases hold q hq with rfl | hq
    · omega
    · exact hmono _ (h.base.closed q hn' hq s hs)
  · by_cases es : s = j
    · subst es; simp [hjl]
    · exact hmono _ (h.got s d' e' (by omega) hd' he' hsi hf)
theorem Proc.all {l : List Df} {k : Nat} {m : List Bool} (h : Proc l k 0 m) : m = needB l k := by
  have hr : ∀ j, Reach l k j → m[j]? = some true := fun j hj => by
    induction hj with
    | base => exact h.self
    | step _ s ih => exact h.closed _ (Nat.zero_le _) ih _ s
  have hl := h.len
  refine List.ext_getElem? fun j => ?_
  simp only [needB, List.getElem?_map]
  by_cases hj : j < l.length
  · rw [List.getElem?_range hj]
    simp only [Option.map_some]
    cases hb : m[j]? with
    | none => rw [List.getElem?_eq_none_iff] at hb; omega
    | some b =>
      congr 1
      cases b with
      | true => exact (isR_iff.2 (h.new j hb)).symm
      | false =>
        cases hc : isR l k j with
        | false => rfl
        | true => rw [hr j (isR_iff.1 hc)] at hb; cases hb
  · rw [List.getElem?_eq_none (by omega), List.getElem?_eq_none (by simpa using hj)]; rfl

theorem obj2 (l : List Df) (k : Nat) : ∃ ξ, [AObj.row 4 1 ((List.replicate l.length [DV.bool false]).set k [.bool true])] = [AObj.row 4 1 (brows ((List.replicate l.length false).set k true))] ++ ξ := ⟨[], by simp [brows, List.map_set]⟩
structure RnO (l : List Df) (k : Nat) where
  n : Nat
  hn : n ≤ k + 1
  m : List Bool
  h : Proc l k n m
structure RnI (l : List Df) (k i : Nat) where
  j : Nat
  hj : j ≤ i
  m : List Bool
  h : ProcI l k i j m
set_option maxRecDepth 10000 in
theorem rneeded_call (l : List Df) (k : Nat) (hk : k < l.length) (hl : l.length ≤ 256) : ACall Tryz.prog 18 [.c (.d (.sl 0 15 (drows l))), .c (.d (.int .i64 k))] [] (fun o σ => o = .ret (.c (.d (.sl 0 1 (brows (needB l k))))) ∧ σ = []) := by
  refine ACall.body tab_ok (ρ := 0) (N := 47) Tryz.func18 rfl rfl rfl rfl rfl ?_
  repeat' first | refine AW.seq ?_ | refine AW.block ?_ | ((first | refine AW.region tab_ok ?_ | refine AW.cond ?_ | refine AW.skip ?_ | refine AW.ret ?_ | refine AW.exit ?_); conv => whnf) | ((first | refine And.intro (@rfl Val _) ?_ | refine And.intro (by decide) ?_ | refine cs (fun _ => ?_) (fun _ => ?_)) <;> conv => whnf)
  rw [drows_len]
  refine ⟨⟨by omega, by omega, by simp only; omega, by omega⟩, ?_⟩
  conv => whnf
  repeat' first | refine AW.seq ?_ | refine AW.block ?_ | ((first | refine AW.region tab_ok ?_ | refine AW.cond ?_ | refine AW.skip ?_ | refine AW.ret ?_ | refine AW.exit ?_); conv => whnf) | ((first | refine And.intro (@rfl Val _) ?_ | refine And.intro (by decide) ?_ | refine cs (fun _ => ?_) (fun _ => ?_)) <;> conv => whnf)
  refine ⟨⟨by simp, by omega, by simp; omega⟩, ?_⟩
  conv => whnf
  repeat' first | refine AW.seq ?_ | refine AW.block ?_ | ((first | refine AW.region tab_ok ?_ | refine AW.cond ?_ | refine AW.skip ?_ | refine AW.ret ?_ | refine AW.exit ?_); conv => whnf) | ((first | refine And.intro (@rfl Val _) ?_ | refine And.intro (by decide) ?_ | refine cs (fun _ => ?_) (fun _ => ?_)) <;> conv => whnf)
  refine ⟨⟨by simp, by simp; omega⟩, ?_⟩
  conv => whnf
  repeat' first | refine AW.seq ?_ | refine AW.block ?_ | ((first | refine AW.region tab_ok ?_ | refine AW.cond ?_ | refine AW.skip ?_ | refine AW.ret ?_ | refine AW.exit ?_); conv => whnf) | ((first | refine And.intro (@rfl Val _) ?_ | refine And.intro (by decide) ?_ | refine cs (fun _ => ?_) (fun _ => ?_)) <;> conv => whnf)
  refine AW.loop (ι := RnO l k) (fun x => ⟨47, [(6, .c (.d (.int .i64 ((x.n : Int) - 1)))), (5, .c (.own 0 l.length)), (0, .c (.d (.sl 0 15 (drows l)))), (1, .c (.d (.int .i64 k)))], [.row 4 1 (brows x.m)], []⟩)
    (fun x => x.n) ⟨k + 1, Nat.le_refl _, _, Proc.start hk⟩ 1 (fun _ => rfl) (Nat.le_of_ble_eq_true rfl) ⟨⟨by show Val.c (.d (.int .i64 (k : Int))) = Val.c (.d (.int .i64 (((k + 1 : Nat) : Int) - 1))); congr 3; omega, rfl, rfl, rfl, trivial⟩, rfl, rfl, obj2 l k, rfl⟩ (fun x => ?_)
  obtain ⟨n, hn, m, hm⟩ := x
  have hml := hm.len
  repeat' first | refine AW.seq ?_ | refine AW.block ?_ | ((first | refine AW.region tab_ok ?_ | refine AW.cond ?_ | refine AW.skip ?_ | refine AW.ret ?_ | refine AW.exit ?_); conv => whnf) | ((first | refine And.intro (@rfl Val _) ?_ | refine And.intro (by decide) ?_ | refine cs (fun _ => ?_) (fun _ => ?_)) <;> conv => whnf)
  rotate_left
  · rename_i h
    have := of_decide_eq_false h
    obtain rfl : n = 0 := by simp only at this; omega
    rw [← hm.all]
    refine ⟨by simp only [brows_len]; omega, ?_⟩
    conv => whnf
    exact ⟨rfl, rfl⟩
  rename_i h
  have := of_decide_eq_true h
  obtain ⟨i, rfl⟩ : ∃ i, n = i + 1 := ⟨n - 1, by simp only at this; omega⟩
  have ei : (((i + 1 : Nat) : Int) - 1) = (i : Int) := by omega
  have hil : i < l.length := by omega
  obtain ⟨b, hb⟩ : ∃ b, m[i]? = some b := ⟨_, List.getElem?_eq_getElem (by omega)⟩
  have hbr : (brows m)[i]? = some [.bool b] := by simp [brows, hb]
  have hbl := brows_len m
  obtain ⟨d, hd⟩ : ∃ d, l[i]? = some d := ⟨_, List.getElem?_eq_getElem hil⟩
  have hrow : (drows l)[i]? = some d.cells := by simp [drows, hd]
  clear h this
  simp only [ei]
  refine ⟨⟨by omega, by omega, by omega⟩, ?_⟩
  conv => whnf
  repeat' first | refine AW.seq ?_ | refine AW.block ?_ | ((first | refine AW.region tab_ok ?_ | refine AW.cond ?_ | refine AW.skip ?_ | refine AW.ret ?_ | refine AW.exit ?_); conv => whnf) | ((first | refine And.intro (@rfl Val _) ?_ | refine And.intro (by decide) ?_ | refine cs (fun _ => ?_) (fun _ => ?_)) <;> conv => whnf)
  refine ⟨⟨by omega, by omega⟩, fun row hr => ?_⟩
  obtain rfl : row = [.bool b] := by rw [show ((i : Int)).toNat = i from rfl, hbr] at hr; exact (Option.some.inj hr).symm
  conv => whnf
  repeat' first | refine AW.seq ?_ | refine AW.block ?_ | ((first | refine AW.region tab_ok ?_ | refine AW.cond ?_ | refine AW.skip ?_ | refine AW.ret ?_ | refine AW.exit ?_); conv => whnf) | ((first | refine And.intro (@rfl Val _) ?_ | refine And.intro (by decide) ?_ | refine cs (fun _ => ?_) (fun _ => ?_)) <;> conv => whnf)
  · rename_i h
    have hb0 : b = false := by simpa using h
    rw [wrap64 (x := (i : Int) - 1) (by omega) (by omega)]
    exact ⟨⟨i, by omega, m, hm.skip (by rw [hb, hb0])⟩, ⟨⟨rfl, rfl, rfl, rfl, trivial⟩, rfl, rfl, ⟨[], rfl⟩, rfl⟩, show i < i + 1 by omega⟩
  rename_i h
  have hb1 : b = true := by simpa using h
  subst hb1
  clear h hr
  have c1 := rFree_call d.tm
  rw [show rfreeS d.tm = freeS d.tm from (free_same d.tm).symm] at c1
  have hfl : (freeS d.tm).length ≤ 8192 := freeS_len d.tm
  have hpi : ProcI l k i 0 m := ⟨hm, hb, fun s d e hs => by omega⟩
  have hsk := fun (j : Nat) (m' : List Bool) (h : ProcI l k i j m') e => h.skip (e := e) hd
  have hpt := fun (j : Nat) (m' : List Bool) (h : ProcI l k i j m') e hji => h.put (e := e) hji hil hd
  obtain ⟨s, ⟨a, bs⟩, ⟨q, name, arg, num, tk, tks, uk, uks, label, place, ks⟩, pl⟩ := d
  simp only at c1 hfl hsk hpt
  generalize freeS (Tm.node q name arg num tk tks uk uks label place ks) = ns at *
  refine ⟨by rw [drows_len]; omega, fun row hr => ?_⟩
  obtain rfl := Option.some.inj (hrow.symm.trans hr)
  conv => whnf
  repeat' first | refine AW.seq ?_ | refine AW.block ?_ | ((first | refine AW.region tab_ok ?_ | refine AW.cond ?_ | refine AW.skip ?_ | refine AW.ret ?_ | refine AW.exit ?_); conv => whnf) | (refine (c1).mono ?_; rintro _ _ ⟨rfl, rfl⟩; conv => whnf) | ((first | refine And.intro (@rfl Val _) ?_ | refine And.intro (by decide) ?_ | refine cs (fun _ => ?_) (fun _ => ?_)) <;> conv => whnf)
  clear hb hbr hr hbl hm hml
  refine AW.loop (ι := RnI l k i) (fun x => ⟨47, [(8, .c (.d (.int .i64 x.j))), (7, .c (.d (.sl 0 1 (strs ns)))), (6, .c (.d (.int .i64 i))), (5, .c (.own 0 l.length)), (0, .c (.d (.sl 0 15 (drows l)))), (1, .c (.d (.int .i64 k)))], [.row 4 1 (brows x.m)], []⟩)
    (fun x => i - x.j) ⟨0, Nat.zero_le _, m, hpi⟩ 1 (fun _ => rfl) (Nat.le_of_ble_eq_true rfl) ⟨⟨rfl, rfl, rfl, rfl, rfl, rfl, trivial⟩, rfl, rfl, ⟨[], rfl⟩, rfl⟩ (fun x => ?_)
  obtain ⟨j, hj, m', hm'⟩ := x
  have hml := hm'.base.len
  have hbl := brows_len m'
  repeat' first | refine AW.seq ?_ | refine AW.block ?_ | ((first | refine AW.region tab_ok ?_ | refine AW.cond ?_ | refine AW.skip ?_ | refine AW.ret ?_ | refine AW.exit ?_); conv => whnf) | ((first | refine And.intro (@rfl Val _) ?_ | refine And.intro (by decide) ?_ | refine cs (fun _ => ?_) (fun _ => ?_)) <;> conv => whnf)
  · rename_i h
    have := of_decide_eq_true h
    have hji : j < i := by simp only at this; omega
    obtain ⟨e, he⟩ : ∃ e, l[j]? = some e := ⟨_, List.getElem?_eq_getElem (by omega)⟩
    have hrow2 : (drows l)[j]? = some e.cells := by simp [drows, he]
    have c2 := in_call ns e.name (by omega)
    have hsk := hsk j m' hm' e he
    have hpt := hpt j m' hm' e hji he
    obtain ⟨s2, ⟨a2, bs2⟩, ⟨q2, name2, arg2, num2, tk2, tks2, uk2, uks2, label2, place2, ks2⟩, pl2⟩ := e
    simp only at c2 hsk hpt
    refine ⟨by rw [drows_len]; omega, fun row hr => ?_⟩
    obtain rfl := Option.some.inj (hrow2.symm.trans hr)
    conv => whnf
    repeat' first | refine AW.seq ?_ | refine AW.block ?_ | ((first | refine AW.region tab_ok ?_ | refine AW.cond ?_ | refine AW.skip ?_ | refine AW.ret ?_ | refine AW.exit ?_); conv => whnf) | (refine (c2).mono ?_; rintro _ _ ⟨rfl, rfl⟩; conv => whnf) | ((first | refine And.intro (@rfl Val _) ?_ | refine And.intro (by decide) ?_ | refine cs (fun _ => ?_) (fun _ => ?_)) <;> conv => whnf)
    · rename_i h2
      have hin := inF_iff.1 h2
      refine ⟨⟨by simp only [brows_len]; omega, by omega, by simp only [brows_len]; omega⟩, ?_⟩
      conv => whnf
      repeat' first | refine AW.seq ?_ | refine AW.block ?_ | ((first | refine AW.region tab_ok ?_ | refine AW.cond ?_ | refine AW.skip ?_ | refine AW.ret ?_ | refine AW.exit ?_); conv => whnf) | ((first | refine And.intro (@rfl Val _) ?_ | refine And.intro (by decide) ?_ | refine cs (fun _ => ?_) (fun _ => ?_)) <;> conv => whnf)
      refine ⟨⟨by simp only [brows_len]; omega, by simp only [brows_len]; omega⟩, ?_⟩
      conv => whnf
      repeat' first | refine AW.seq ?_ | refine AW.block ?_ | ((first | refine AW.region tab_ok ?_ | refine AW.cond ?_ | refine AW.skip ?_ | refine AW.ret ?_ | refine AW.exit ?_); conv => whnf) | ((first | refine And.intro (@rfl Val _) ?_ | refine And.intro (by decide) ?_ | refine cs (fun _ => ?_) (fun _ => ?_)) <;> conv => whnf)
      rw [show ((j : Int)).toNat = j from rfl, brows_set, wrap64 (x := (j : Int) + 1) (by omega) (by omega)]
      exact ⟨⟨j + 1, hji, _, hpt hin⟩, ⟨⟨rfl, rfl, rfl, rfl, rfl, rfl, trivial⟩, rfl, rfl, ⟨[], rfl⟩, rfl⟩, show i - (j + 1) < i - j by omega⟩
    · rename_i h2
      have hin := inF_not.1 h2
      rw [wrap64 (x := (j : Int) + 1) (by omega) (by omega)]
      exact ⟨⟨j + 1, hji, _, hsk hin⟩, ⟨⟨rfl, rfl, rfl, rfl, rfl, rfl, trivial⟩, rfl, rfl, ⟨[], rfl⟩, rfl⟩, show i - (j + 1) < i - j by omega⟩
  · rename_i h
    have := of_decide_eq_false h
    obtain rfl : j = i := by simp only at this; omega
    rw [wrap64 (x := (j : Int) - 1) (by omega) (by omega)]
    exact ⟨⟨j, by omega, m', hm'.done⟩, ⟨⟨rfl, rfl, rfl, rfl, trivial⟩, rfl, rfl, ⟨[], rfl⟩, rfl⟩, show j < j + 1 by omega⟩
end Go.Proofs.YthmbncehoblgpaaGreatDoor.E
