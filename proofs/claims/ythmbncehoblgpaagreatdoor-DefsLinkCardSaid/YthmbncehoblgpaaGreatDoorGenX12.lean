/- Texts, merged: Df4, Df5. No conditions. -/
import Derived.Test.YthmbncehoblgpaaGreatDoorGenX9
import Derived.Test.YthmbncehoblgpaaGreatDoorGenX11
/- Walks: the document's needed. No conditions. -/
set_option linter.unusedVariables false
set_option linter.unusedSimpArgs false
namespace Go.Proofs.YthmbncehoblgpaaGreatDoor.E
open Go

/-- All from n on are gone through. -/
structure Proc (l : List Df) (k n : Nat) (m : List Bool) : Prop where
  len : m.length = l.length
  self : m[k]? = some true
  new : ∀ j : Nat, m[j]? = some true → Reach l k j
  closed : ∀ j : Nat, n ≤ j → m[j]? = some true → ∀ s, Succ l j s → m[s]? = some true
/-- While that at i is gone through, as far as j. -/
structure ProcI (l : List Df) (k i j : Nat) (m : List Bool) : Prop where
  base : Proc l k (i + 1) m
  on : m[i]? = some true
  got : ∀ (s : Nat) (d e : Df), s < j → l[i]? = Option.some d → l[s]? = Option.some e → s < i → e.name ∈ freeS d.tm → m[s]? = Option.some true
theorem Proc.start {l : List Df} {k : Nat} (hk : k < l.length) : Proc l k (k + 1) ((List.replicate l.length false).set k true) := by
  have hno : ∀ j : Nat, (List.replicate l.length false)[j]? ≠ some true := fun j hj => by
    have := List.mem_of_getElem? hj
    simp at this
  have hat : ∀ j : Nat, ((List.replicate l.length false).set k true)[j]? = some true → j = k := fun j hj => by
    rw [List.getElem?_set] at hj
    split at hj
    · rename_i e; exact e.symm
    · exact (hno _ hj).elim
  refine ⟨by simp, by simp [hk], fun j hj => ?_, fun j hn hj => ?_⟩
  · obtain rfl := hat j hj; exact .base
  · have := hat j hj; omega
theorem Proc.skip {l : List Df} {k i : Nat} {m : List Bool} (h : Proc l k (i + 1) m) (hi : m[i]? = some false) : Proc l k i m :=
  ⟨h.len, h.self, h.new, fun j hn hj => by
    by_cases e : j = i
    · subst e; rw [hi] at hj; cases hj
    · exact h.closed j (by omega) hj⟩
theorem ProcI.done {l : List Df} {k i : Nat} {m : List Bool} (h : ProcI l k i i m) : Proc l k i m :=
  ⟨h.base.len, h.base.self, h.base.new, fun j hn hj => by
    by_cases e : j = i
    · subst e
      rintro s ⟨h1, d, e, h2, h3, h4⟩
      exact h.got s d e h1 h2 h3 h1 h4
    · exact h.base.closed j (by omega) hj⟩
theorem ProcI.skip {l : List Df} {k i j : Nat} {m : List Bool} {d e : Df} (h : ProcI l k i j m) (hd : l[i]? = some d) (he : l[j]? = some e) (hn : e.name ∉ freeS d.tm) : ProcI l k i (j + 1) m :=
  ⟨h.base, h.on, fun s d' e' hs hd' he' hsi hf => by
    by_cases e : s = j
    · subst e
      rw [hd] at hd'; rw [he] at he'; cases hd'; cases he'
      exact (hn hf).elim
    · exact h.got s d' e' (by omega) hd' he' hsi hf⟩
theorem ProcI.put {l : List Df} {k i j : Nat} {m : List Bool} {d e : Df} (h : ProcI l k i j m) (hj : j < i) (hi : i < l.length) (hd : l[i]? = some d) (he : l[j]? = some e) (hn : e.name ∈ freeS d.tm) : ProcI l k i (j + 1) (m.set j true) := by
  have hjl : j < m.length := by rw [h.base.len]; omega
  have hmono : ∀ q : Nat, m[q]? = some true → (m.set j true)[q]? = some true := fun q hq => by
    rw [List.getElem?_set]
    split
    · first | rfl | simp [hjl]
    · exact hq
  have hold : ∀ q : Nat, (m.set j true)[q]? = some true → q = j ∨ m[q]? = some true := fun q hq => by
    rw [List.getElem?_set] at hq
    split at hq
    · rename_i e; exact .inl e.symm
    · exact .inr hq
  refine ⟨⟨by simp [h.base.len], hmono _ h.base.self, fun q hq => ?_, fun q hn' hq s hs => ?_⟩, hmono _ h.on, fun s d' e' hs hd' he' hsi hf => ?_⟩
  · rcases hold q hq with rfl | hq
    · exact (h.base.new i h.on).step ⟨hj, d, e, hd, he, hn⟩
    · exact h.base.new q hq
  · rcases hold q hq with rfl | hq
    · omega
    · exact hmono _ (h.base.closed q hn' hq s hs)
  · by_cases es : s = j
    · subst es; simp [hjl]
    · exact hmono _ (h.got s d' e' (by omega) hd' he' hsi hf)
theorem Proc.all {l : List Df} {k : Nat} {m : List Bool} (h : Proc l k 0 m) : m = needB l k := by
  have hr : ∀ j, Reach l k j → m[j]? = some true := fun j hj => by
    induction hj with
    | base => exact h.self
    | step _ s ih => exact h.closed _ (Nat.zero_le _) ih _ s
  have hl := h.len
  refine List.ext_getElem? fun j => ?_
  simp only [needB, List.getElem?_map]
  by_cases hj : j < l.length
  · rw [List.getElem?_range hj]
    simp only [Option.map_some]
    cases hb : m[j]? with
    | none => rw [List.getElem?_eq_none_iff] at hb; omega
    | some b =>
      congr 1
      cases b with
      | true => exact (isR_iff.2 (h.new j hb)).symm
      | false =>
        cases hc : isR l k j with
        | false => rfl
        | true => rw [hr j (isR_iff.1 hc)] at hb; cases hb
  · rw [List.getElem?_eq_none (by omega), List.getElem?_eq_none (by simpa using hj)]; rfl

theorem obj2 (l : List Df) (k : Nat) : ∃ ξ, [AObj.row 4 1 ((List.replicate l.length [DV.bool false]).set k [.bool true])] = [AObj.row 4 1 (brows ((List.replicate l.length false).set k true))] ++ ξ := ⟨[], by simp [brows, List.map_set]⟩
structure RnO (l : List Df) (k : Nat) where
  n : Nat
  hn : n ≤ k + 1
  m : List Bool
  h : Proc l k n m
structure RnI (l : List Df) (k i : Nat) where
  j : Nat
  hj : j ≤ i
  m : List Bool
  h : ProcI l k i j m
set_option maxRecDepth 10000 in
theorem rneeded_call (l : List Df) (k : Nat) (hk : k < l.length) (hl : l.length ≤ 256) : ACall Tryz.prog 18 [.c (.d (.sl 0 15 (drows l))), .c (.d (.int .i64 k))] [] (fun o σ => o = .ret (.c (.d (.sl 0 1 (brows (needB l k))))) ∧ σ = []) := by
  refine ACall.body tab_ok (ρ := 0) (N := 47) Tryz.func18 rfl rfl rfl rfl rfl ?_
  repeat' first | refine AW.seq ?_ | refine AW.block ?_ | ((first | refine AW.region tab_ok ?_ | refine AW.cond ?_ | refine AW.skip ?_ | refine AW.ret ?_ | refine AW.exit ?_); conv => whnf) | ((first | refine And.intro (@rfl Val _) ?_ | refine And.intro (by decide) ?_ | refine cs (fun _ => ?_) (fun _ => ?_)) <;> conv => whnf)
  rw [drows_len]
  refine ⟨⟨by omega, by omega, by simp only; omega, by omega⟩, ?_⟩
  conv => whnf
  repeat' first | refine AW.seq ?_ | refine AW.block ?_ | ((first | refine AW.region tab_ok ?_ | refine AW.cond ?_ | refine AW.skip ?_ | refine AW.ret ?_ | refine AW.exit ?_); conv => whnf) | ((first | refine And.intro (@rfl Val _) ?_ | refine And.intro (by decide) ?_ | refine cs (fun _ => ?_) (fun _ => ?_)) <;> conv => whnf)
  refine ⟨⟨by simp, by omega, by simp; omega⟩, ?_⟩
  conv => whnf
  repeat' first | refine AW.seq ?_ | refine AW.block ?_ | ((first | refine AW.region tab_ok ?_ | refine AW.cond ?_ | refine AW.skip ?_ | refine AW.ret ?_ | refine AW.exit ?_); conv => whnf) | ((first | refine And.intro (@rfl Val _) ?_ | refine And.intro (by decide) ?_ | refine cs (fun _ => ?_) (fun _ => ?_)) <;> conv => whnf)
  refine ⟨⟨by simp, by simp; omega⟩, ?_⟩
  conv => whnf
  repeat' first | refine AW.seq ?_ | refine AW.block ?_ | ((first | refine AW.region tab_ok ?_ | refine AW.cond ?_ | refine AW.skip ?_ | refine AW.ret ?_ | refine AW.exit ?_); conv => whnf) | ((first | refine And.intro (@rfl Val _) ?_ | refine And.intro (by decide) ?_ | refine cs (fun _ => ?_) (fun _ => ?_)) <;> conv => whnf)
  refine AW.loop (ι := RnO l k) (fun x => ⟨47, [(6, .c (.d (.int .i64 ((x.n : Int) - 1)))), (5, .c (.own 0 l.length)), (0, .c (.d (.sl 0 15 (drows l)))), (1, .c (.d (.int .i64 k)))], [.row 4 1 (brows x.m)], []⟩)
    (fun x => x.n) ⟨k + 1, Nat.le_refl _, _, Proc.start hk⟩ 1 (fun _ => rfl) (Nat.le_of_ble_eq_true rfl) ⟨⟨by show Val.c (.d (.int .i64 (k : Int))) = Val.c (.d (.int .i64 (((k + 1 : Nat) : Int) - 1))); congr 3; omega, rfl, rfl, rfl, trivial⟩, rfl, rfl, obj2 l k, rfl⟩ (fun x => ?_)
  obtain ⟨n, hn, m, hm⟩ := x
  have hml := hm.len
  repeat' first | refine AW.seq ?_ | refine AW.block ?_ | ((first | refine AW.region tab_ok ?_ | refine AW.cond ?_ | refine AW.skip ?_ | refine AW.ret ?_ | refine AW.exit ?_); conv => whnf) | ((first | refine And.intro (@rfl Val _) ?_ | refine And.intro (by decide) ?_ | refine cs (fun _ => ?_) (fun _ => ?_)) <;> conv => whnf)
  rotate_left
  · rename_i h
    have := of_decide_eq_false h
    obtain rfl : n = 0 := by simp only at this; omega
    rw [← hm.all]
    refine ⟨by simp only [brows_len]; omega, ?_⟩
    conv => whnf
    exact ⟨rfl, rfl⟩
  rename_i h
  have := of_decide_eq_true h
  obtain ⟨i, rfl⟩ : ∃ i, n = i + 1 := ⟨n - 1, by simp only at this; omega⟩
  have ei : (((i + 1 : Nat) : Int) - 1) = (i : Int) := by omega
  have hil : i < l.length := by omega
  obtain ⟨b, hb⟩ : ∃ b, m[i]? = some b := ⟨_, List.getElem?_eq_getElem (by omega)⟩
  have hbr : (brows m)[i]? = some [.bool b] := by simp [brows, hb]
  have hbl := brows_len m
  obtain ⟨d, hd⟩ : ∃ d, l[i]? = some d := ⟨_, List.getElem?_eq_getElem hil⟩
  have hrow : (drows l)[i]? = some d.cells := by simp [drows, hd]
  clear h this
  simp only [ei]
  refine ⟨⟨by omega, by omega, by omega⟩, ?_⟩
  conv => whnf
  repeat' first | refine AW.seq ?_ | refine AW.block ?_ | ((first | refine AW.region tab_ok ?_ | refine AW.cond ?_ | refine AW.skip ?_ | refine AW.ret ?_ | refine AW.exit ?_); conv => whnf) | ((first | refine And.intro (@rfl Val _) ?_ | refine And.intro (by decide) ?_ | refine cs (fun _ => ?_) (fun _ => ?_)) <;> conv => whnf)
  refine ⟨⟨by omega, by omega⟩, fun row hr => ?_⟩
  obtain rfl : row = [.bool b] := by rw [show ((i : Int)).toNat = i from rfl, hbr] at hr; exact (Option.some.inj hr).symm
  conv => whnf
  repeat' first | refine AW.seq ?_ | refine AW.block ?_ | ((first | refine AW.region tab_ok ?_ | refine AW.cond ?_ | refine AW.skip ?_ | refine AW.ret ?_ | refine AW.exit ?_); conv => whnf) | ((first | refine And.intro (@rfl Val _) ?_ | refine And.intro (by decide) ?_ | refine cs (fun _ => ?_) (fun _ => ?_)) <;> conv => whnf)
  · rename_i h
    have hb0 : b = false := by simpa using h
    rw [wrap64 (x := (i : Int) - 1) (by omega) (by omega)]
    exact ⟨⟨i, by omega, m, hm.skip (by rw [hb, hb0])⟩, ⟨⟨rfl, rfl, rfl, rfl, trivial⟩, rfl, rfl, ⟨[], rfl⟩, rfl⟩, show i < i + 1 by omega⟩
  rename_i h
  have hb1 : b = true := by simpa using h
  subst hb1
  clear h hr
  have c1 := rFree_call d.tm
  rw [show rfreeS d.tm = freeS d.tm from (free_same d.tm).symm] at c1
  have hfl : (freeS d.tm).length ≤ 8192 := freeS_len d.tm
  have hpi : ProcI l k i 0 m := ⟨hm, hb, fun s d e hs => by omega⟩
  have hsk := fun (j : Nat) (m' : List Bool) (h : ProcI l k i j m') e => h.skip (e := e) hd
  have hpt := fun (j : Nat) (m' : List Bool) (h : ProcI l k i j m') e hji => h.put (e := e) hji hil hd
  obtain ⟨s, ⟨a, bs⟩, ⟨q, name, arg, num, tk, tks, uk, uks, label, place, ks⟩, pl⟩ := d
  simp only at c1 hfl hsk hpt
  generalize freeS (Tm.node q name arg num tk tks uk uks label place ks) = ns at *
  refine ⟨by rw [drows_len]; omega, fun row hr => ?_⟩
  obtain rfl := Option.some.inj (hrow.symm.trans hr)
  conv => whnf
  repeat' first | refine AW.seq ?_ | refine AW.block ?_ | ((first | refine AW.region tab_ok ?_ | refine AW.cond ?_ | refine AW.skip ?_ | refine AW.ret ?_ | refine AW.exit ?_); conv => whnf) | (refine (c1).mono ?_; rintro _ _ ⟨rfl, rfl⟩; conv => whnf) | ((first | refine And.intro (@rfl Val _) ?_ | refine And.intro (by decide) ?_ | refine cs (fun _ => ?_) (fun _ => ?_)) <;> conv => whnf)
  clear hb hbr hr hbl hm hml
  refine AW.loop (ι := RnI l k i) (fun x => ⟨47, [(8, .c (.d (.int .i64 x.j))), (7, .c (.d (.sl 0 1 (strs ns)))), (6, .c (.d (.int .i64 i))), (5, .c (.own 0 l.length)), (0, .c (.d (.sl 0 15 (drows l)))), (1, .c (.d (.int .i64 k)))], [.row 4 1 (brows x.m)], []⟩)
    (fun x => i - x.j) ⟨0, Nat.zero_le _, m, hpi⟩ 1 (fun _ => rfl) (Nat.le_of_ble_eq_true rfl) ⟨⟨rfl, rfl, rfl, rfl, rfl, rfl, trivial⟩, rfl, rfl, ⟨[], rfl⟩, rfl⟩ (fun x => ?_)
  obtain ⟨j, hj, m', hm'⟩ := x
  have hml := hm'.base.len
  have hbl := brows_len m'
  repeat' first | refine AW.seq ?_ | refine AW.block ?_ | ((first | refine AW.region tab_ok ?_ | refine AW.cond ?_ | refine AW.skip ?_ | refine AW.ret ?_ | refine AW.exit ?_); conv => whnf) | ((first | refine And.intro (@rfl Val _) ?_ | refine And.intro (by decide) ?_ | refine cs (fun _ => ?_) (fun _ => ?_)) <;> conv => whnf)
  · rename_i h
    have := of_decide_eq_true h
    have hji : j < i := by simp only at this; omega
    obtain ⟨e, he⟩ : ∃ e, l[j]? = some e := ⟨_, List.getElem?_eq_getElem (by omega)⟩
    have hrow2 : (drows l)[j]? = some e.cells := by simp [drows, he]
    have c2 := in_call ns e.name (by omega)
    have hsk := hsk j m' hm' e he
    have hpt := hpt j m' hm' e hji he
    obtain ⟨s2, ⟨a2, bs2⟩, ⟨q2, name2, arg2, num2, tk2, tks2, uk2, uks2, label2, place2, ks2⟩, pl2⟩ := e
    simp only at c2 hsk hpt
    refine ⟨by rw [drows_len]; omega, fun row hr => ?_⟩
    obtain rfl := Option.some.inj (hrow2.symm.trans hr)
    conv => whnf
    repeat' first | refine AW.seq ?_ | refine AW.block ?_ | ((first | refine AW.region tab_ok ?_ | refine AW.cond ?_ | refine AW.skip ?_ | refine AW.ret ?_ | refine AW.exit ?_); conv => whnf) | (refine (c2).mono ?_; rintro _ _ ⟨rfl, rfl⟩; conv => whnf) | ((first | refine And.intro (@rfl Val _) ?_ | refine And.intro (by decide) ?_ | refine cs (fun _ => ?_) (fun _ => ?_)) <;> conv => whnf)
    · rename_i h2
      have hin := inF_iff.1 h2
      refine ⟨⟨by simp only [brows_len]; omega, by omega, by simp only [brows_len]; omega⟩, ?_⟩
      conv => whnf
      repeat' first | refine AW.seq ?_ | refine AW.block ?_ | ((first | refine AW.region tab_ok ?_ | refine AW.cond ?_ | refine AW.skip ?_ | refine AW.ret ?_ | refine AW.exit ?_); conv => whnf) | ((first | refine And.intro (@rfl Val _) ?_ | refine And.intro (by decide) ?_ | refine cs (fun _ => ?_) (fun _ => ?_)) <;> conv => whnf)
      refine ⟨⟨by simp only [brows_len]; omega, by simp only [brows_len]; omega⟩, ?_⟩
      conv => whnf
      repeat' first | refine AW.seq ?_ | refine AW.block ?_ | ((first | refine AW.region tab_ok ?_ | refine AW.cond ?_ | refine AW.skip ?_ | refine AW.ret ?_ | refine AW.exit ?_); conv => whnf) | ((first | refine And.intro (@rfl Val _) ?_ | refine And.intro (by decide) ?_ | refine cs (fun _ => ?_) (fun _ => ?_)) <;> conv => whnf)
      rw [show ((j : Int)).toNat = j from rfl, brows_set, wrap64 (x := (j : Int) + 1) (by omega) (by omega)]
      exact ⟨⟨j + 1, hji, _, hpt hin⟩, ⟨⟨rfl, rfl, rfl, rfl, rfl, rfl, trivial⟩, rfl, rfl, ⟨[], rfl⟩, rfl⟩, show i - (j + 1) < i - j by omega⟩
    · rename_i h2
      have hin := inF_not.1 h2
      rw [wrap64 (x := (j : Int) + 1) (by omega) (by omega)]
      exact ⟨⟨j + 1, hji, _, hsk hin⟩, ⟨⟨rfl, rfl, rfl, rfl, rfl, rfl, trivial⟩, rfl, rfl, ⟨[], rfl⟩, rfl⟩, show i - (j + 1) < i - j by omega⟩
  · rename_i h
    have := of_decide_eq_false h
    obtain rfl : j = i := by simp only at this; omega
    rw [wrap64 (x := (j : Int) - 1) (by omega) (by omega)]
    exact ⟨⟨j, by omega, m', hm'.done⟩, ⟨⟨rfl, rfl, rfl, rfl, trivial⟩, rfl, rfl, ⟨[], rfl⟩, rfl⟩, show j < j + 1 by omega⟩
end Go.Proofs.YthmbncehoblgpaaGreatDoor.E

/- Walks: the document's sound. No conditions. -/
set_option linter.unusedVariables false
set_option linter.unusedSimpArgs false
namespace Go.Proofs.YthmbncehoblgpaaGreatDoor.E
open Go

def soundD (t : Tm) : Int := if tmcheck t ≠ 0 then tmcheck t else if tmhas 17 t = true then 30 else 0
theorem errD_eq (d : Df) : errD d = if soundD d.tm ≠ 0 then soundD d.tm else tcheck d.ty := by
  unfold errD soundD
  by_cases h : tmcheck d.tm = 0
  · by_cases h2 : tmhas 17 d.tm = true
    · simp [h, h2]
    · simp [h, h2]
  · simp [h]
set_option maxRecDepth 10000 in
theorem dSound_call (t : Tm) : ACall Tryz.prog 35 [t.val, .c (.d (.int .i8 17))] [] (fun o σ => o = .ret (.c (.d (.int .i64 (soundD t)))) ∧ σ = []) := by
  have c1 := rtmCheck_call t
  by_cases hc : tmcheck t = 0
  · have c2 := rhas_call 17 t (tmcheck_ok hc).1
    have e : soundD t = if tmhas 17 t = true then 30 else 0 := by simp [soundD, hc]
    rw [e]
    rw [hc] at c1
    generalize tmhas 17 t = b at *
    clear hc e
    obtain ⟨k, name, arg, num, tk, tks, uk, uks, label, place, ks⟩ := t
    refine ACall.body tab_ok (ρ := 0) (N := 14) Tryz.func35 rfl rfl rfl rfl rfl ?_
    repeat' first | refine AW.seq ?_ | refine AW.block ?_ | ((first | refine AW.region tab_ok ?_ | refine AW.cond ?_ | refine AW.skip ?_ | refine AW.ret ?_ | refine AW.exit ?_); conv => whnf) | ((first | refine (c1).mono ?_ | refine (c2).mono ?_); rintro _ _ ⟨rfl, rfl⟩; conv => whnf) | ((first | refine And.intro (@rfl Val _) ?_ | refine And.intro (by decide) ?_ | refine cs (fun _ => ?_) (fun _ => ?_)) <;> conv => whnf)
    · rename_i h
      exact ⟨by rw [if_pos h]; rfl, rfl⟩
    · rename_i h
      exact ⟨by rw [h]; rfl, rfl⟩
  · have e : soundD t = tmcheck t := by simp [soundD, hc]
    rw [e]
    generalize tmcheck t = c at *
    clear e
    obtain ⟨k, name, arg, num, tk, tks, uk, uks, label, place, ks⟩ := t
    refine ACall.body tab_ok (ρ := 0) (N := 14) Tryz.func35 rfl rfl rfl rfl rfl ?_
    repeat' first | ((refine cs (fun _ => ?_) (fun h => absurd h (by simpa using hc)); conv => whnf)) | refine AW.seq ?_ | refine AW.block ?_ | ((first | refine AW.region tab_ok ?_ | refine AW.cond ?_ | refine AW.skip ?_ | refine AW.ret ?_ | refine AW.exit ?_); conv => whnf) | (refine (c1).mono ?_; rintro _ _ ⟨rfl, rfl⟩; conv => whnf) | ((first | refine And.intro (@rfl Val _) ?_ | refine And.intro (by decide) ?_ | refine cs (fun _ => ?_) (fun _ => ?_)) <;> conv => whnf)
    exact ⟨rfl, rfl⟩

structure SoJ (l : List Df) (i : Nat) (s : ByteArray) where
  j : Nat
  hj : j ≤ i
  h : ∀ (q : Nat) (e : Df), q < j → l[q]? = some e → e.name ≠ s
structure SoM (l : List Df) (s : ByteArray) where
  i : Nat
  hi : i ≤ l.length
  h : ∀ (q : Nat) (e : Df), q < i → l[q]? = some e → e.name ≠ s
set_option maxRecDepth 10000 in
theorem rsound_call (l : List Df) (main : ByteArray) : ACall Tryz.prog 17 [.c (.d (.sl 0 15 (drows l))), .c (.d (.str main))] [] (fun o σ => o = .ret (.tup [.c (.d (.int .i64 (soundF l main).1)), fltV (soundF l main).2]) ∧ σ = []) := by
  refine ACall.body tab_ok (ρ := 0) (N := 100) Tryz.func17 rfl rfl rfl rfl rfl ?_
  repeat' first | refine AW.seq ?_ | refine AW.block ?_ | (refine (_root_.id : AW _ _ _ (.region 7 _ true) _ _ → _) ?_; refine AW.draw (id := 7) tab_ok mixed [0, 1, 2, 3, 4, 5, 6, 7] (by kernel_rfl) ?_; conv => whnf) | (refine (_root_.id : AW _ _ _ (.region 11 _ true) _ _ → _) ?_; refine AW.draw (id := 11) tab_ok mixed [0, 1, 2, 3, 4, 5, 6, 7, 8, 9, 10] (by kernel_rfl) ?_; conv => whnf) | (refine (_root_.id : AW _ _ _ (.region 12 _ true) _ _ → _) ?_; refine AW.draw (id := 12) tab_ok mixed [0, 1, 2, 3, 4, 5, 6, 7] (by kernel_rfl) ?_; conv => whnf) | ((first | refine AW.region tab_ok ?_ | refine AW.cond ?_ | refine AW.skip ?_ | refine AW.ret ?_ | refine AW.exit ?_); conv => whnf) | ((first | refine And.intro (@rfl Val _) ?_ | refine And.intro (by decide) ?_ | refine cs (fun _ => ?_) (fun _ => ?_)) <;> conv => whnf)
  · rename_i h
    rw [drows_len] at h
    have h : l.length > 256 := by have := of_decide_eq_true h; omega
    rw [soundF_long h]
    exact ⟨rfl, rfl⟩
  rename_i hlen
  rw [drows_len] at hlen
  have hlen : ¬ l.length > 256 := by have := of_decide_eq_false hlen; omega
  refine AW.loop (ι := SoI l) (fun x => ⟨100, [(6, .c (.d (.int .i64 x.i))), (5, .c (.ptr 0 0)), (0, .c (.d (.sl 0 15 (drows l)))), (1, .c (.d (.str main)))], [.var [.d (.int .i64 0), .d (.int .i64 0), .d (.str ⟨#[]⟩)]], []⟩)
    (fun x => l.length - x.i) ⟨0, Nat.zero_le _, fun j h => by omega⟩ 1 (fun _ => rfl) (Nat.le_of_ble_eq_true rfl) ⟨⟨rfl, rfl, rfl, rfl, trivial⟩, rfl, rfl, ⟨[], rfl⟩, rfl⟩ (fun x => ?_)
  obtain ⟨i, hi, hb⟩ := x
  repeat' first | refine AW.seq ?_ | refine AW.block ?_ | (refine (_root_.id : AW _ _ _ (.region 7 _ true) _ _ → _) ?_; refine AW.draw (id := 7) tab_ok mixed [0, 1, 2, 3, 4, 5, 6, 7] (by kernel_rfl) ?_; conv => whnf) | (refine (_root_.id : AW _ _ _ (.region 11 _ true) _ _ → _) ?_; refine AW.draw (id := 11) tab_ok mixed [0, 1, 2, 3, 4, 5, 6, 7, 8, 9, 10] (by kernel_rfl) ?_; conv => whnf) | (refine (_root_.id : AW _ _ _ (.region 12 _ true) _ _ → _) ?_; refine AW.draw (id := 12) tab_ok mixed [0, 1, 2, 3, 4, 5, 6, 7] (by kernel_rfl) ?_; conv => whnf) | ((first | refine AW.region tab_ok ?_ | refine AW.cond ?_ | refine AW.skip ?_ | refine AW.ret ?_ | refine AW.exit ?_); conv => whnf) | ((first | refine And.intro (@rfl Val _) ?_ | refine And.intro (by decide) ?_ | refine cs (fun _ => ?_) (fun _ => ?_)) <;> conv => whnf)
  · rename_i h1
    simp only [drows_len] at h1 ⊢
    have := of_decide_eq_true h1
    refine ⟨by omega, fun row hrow => ?_⟩
    obtain ⟨d, hd, rfl⟩ := drows_get (by simpa using hrow)
    have hlt : i < l.length := (List.getElem?_eq_some_iff.1 hd).1
    have hrow2 : (drows l)[i]? = some d.cells := by simp [drows, hd]
    have hbad := badAt_nix hd
    have c1 := rname_call d.name
    have hfin := soundF_bad (main := main) hlen hd
    have hnz : (∀ (q : Nat) (e : Df), q < i → l[q]? = some e → e.name ≠ d.name) → nix d.name 0 (l.take i) = 0 := fun h => nix_zero.2 fun e he => by
      obtain ⟨q, hq⟩ := List.getElem?_of_mem he
      rw [List.getElem?_take] at hq
      split at hq
      · rename_i hqi; exact h q e hqi hq
      · cases hq
    have hnn : ∀ (q : Nat) (e : Df), q < i → l[q]? = some e → e.name = d.name → nix d.name 0 (l.take i) ≠ 0 := fun q e hq he hn h0 => nix_zero.1 h0 e (List.mem_of_getElem? (i := q) (by rw [List.getElem?_take, if_pos hq]; exact he)) hn
    obtain ⟨s, ⟨a, bs⟩, ⟨k, name, arg, num, tk, tks, uk, uks, label, place, ks⟩, pl⟩ := d
    simp only at hbad c1 hfin hnz hnn
    generalize nameF s = nf at hbad c1
    conv => whnf
    repeat' first | ((refine ⟨by rw [drows_len]; omega, fun row hr => ?_⟩; obtain rfl := Option.some.inj (hrow2.symm.trans hr); conv => whnf)) | refine AW.seq ?_ | refine AW.block ?_ | (refine (_root_.id : AW _ _ _ (.region 7 _ true) _ _ → _) ?_; refine AW.draw (id := 7) tab_ok mixed [0, 1, 2, 3, 4, 5, 6, 7] (by kernel_rfl) ?_; conv => whnf) | (refine (_root_.id : AW _ _ _ (.region 11 _ true) _ _ → _) ?_; refine AW.draw (id := 11) tab_ok mixed [0, 1, 2, 3, 4, 5, 6, 7, 8, 9, 10] (by kernel_rfl) ?_; conv => whnf) | (refine (_root_.id : AW _ _ _ (.region 12 _ true) _ _ → _) ?_; refine AW.draw (id := 12) tab_ok mixed [0, 1, 2, 3, 4, 5, 6, 7] (by kernel_rfl) ?_; conv => whnf) | ((first | refine AW.region tab_ok ?_ | refine AW.cond ?_ | refine AW.skip ?_ | refine AW.ret ?_ | refine AW.exit ?_); conv => whnf) | (refine (c1).mono ?_; rintro _ _ ⟨rfl, rfl⟩; conv => whnf) | ((first | refine And.intro (@rfl Val _) ?_ | refine And.intro (by decide) ?_ | refine cs (fun _ => ?_) (fun _ => ?_)) <;> conv => whnf)
    · rename_i h
      have hnf : nf = false := by simpa using h
      rw [hfin (by simp [hbad, hnf]) hb]
      exact ⟨rfl, rfl⟩
    rename_i h
    have hnf : nf = true := by simpa using h
    refine AW.loop (ι := SoJ l i s) (fun x => ⟨100, [(7, .c (.d (.int .i64 x.j))), (6, .c (.d (.int .i64 i))), (5, .c (.ptr 0 0)), (0, .c (.d (.sl 0 15 (drows l)))), (1, .c (.d (.str main)))], [.var [.d (.int .i64 0), .d (.int .i64 0), .d (.str ⟨#[]⟩)]], []⟩)
      (fun x => i - x.j) ⟨0, Nat.zero_le _, fun q e h => by omega⟩ 1 (fun _ => rfl) (Nat.le_of_ble_eq_true rfl) ⟨⟨rfl, rfl, rfl, rfl, rfl, trivial⟩, rfl, rfl, ⟨[], rfl⟩, rfl⟩ (fun x => ?_)
    obtain ⟨j, hj, hq⟩ := x
    repeat' first | refine AW.seq ?_ | refine AW.block ?_ | (refine (_root_.id : AW _ _ _ (.region 7 _ true) _ _ → _) ?_; refine AW.draw (id := 7) tab_ok mixed [0, 1, 2, 3, 4, 5, 6, 7] (by kernel_rfl) ?_; conv => whnf) | (refine (_root_.id : AW _ _ _ (.region 11 _ true) _ _ → _) ?_; refine AW.draw (id := 11) tab_ok mixed [0, 1, 2, 3, 4, 5, 6, 7, 8, 9, 10] (by kernel_rfl) ?_; conv => whnf) | (refine (_root_.id : AW _ _ _ (.region 12 _ true) _ _ → _) ?_; refine AW.draw (id := 12) tab_ok mixed [0, 1, 2, 3, 4, 5, 6, 7] (by kernel_rfl) ?_; conv => whnf) | ((first | refine AW.region tab_ok ?_ | refine AW.cond ?_ | refine AW.skip ?_ | refine AW.ret ?_ | refine AW.exit ?_); conv => whnf) | ((first | refine And.intro (@rfl Val _) ?_ | refine And.intro (by decide) ?_ | refine cs (fun _ => ?_) (fun _ => ?_)) <;> conv => whnf)
    · rename_i h2
      have := of_decide_eq_true h2
      have hji : j < i := by simp only at this; omega
      obtain ⟨e, he⟩ : ∃ e, l[j]? = some e := ⟨_, List.getElem?_eq_getElem (by omega)⟩
      have hrow3 : (drows l)[j]? = some e.cells := by simp [drows, he]
      have hnn2 := hnn j e hji he
      have hmore : e.name ≠ s → ∀ (q : Nat) (e' : Df), q < j + 1 → l[q]? = some e' → e'.name ≠ s := fun hn q e' hqj he' => by
        by_cases eq : q = j
        · subst eq; rw [he] at he'; cases he'; exact hn
        · exact hq q e' (by omega) he'
      obtain ⟨s2, ⟨a2, bs2⟩, ⟨q2, name2, arg2, num2, tk2, tks2, uk2, uks2, label2, place2, ks2⟩, pl2⟩ := e
      simp only at hnn2 hmore
      refine ⟨by rw [drows_len]; omega, fun row hr => ?_⟩
      obtain rfl := Option.some.inj (hrow3.symm.trans hr)
      conv => whnf
      repeat' first | ((refine ⟨by rw [drows_len]; omega, fun row hr => ?_⟩; obtain rfl := Option.some.inj (hrow2.symm.trans hr); conv => whnf)) | refine AW.seq ?_ | refine AW.block ?_ | (refine (_root_.id : AW _ _ _ (.region 7 _ true) _ _ → _) ?_; refine AW.draw (id := 7) tab_ok mixed [0, 1, 2, 3, 4, 5, 6, 7] (by kernel_rfl) ?_; conv => whnf) | (refine (_root_.id : AW _ _ _ (.region 11 _ true) _ _ → _) ?_; refine AW.draw (id := 11) tab_ok mixed [0, 1, 2, 3, 4, 5, 6, 7, 8, 9, 10] (by kernel_rfl) ?_; conv => whnf) | (refine (_root_.id : AW _ _ _ (.region 12 _ true) _ _ → _) ?_; refine AW.draw (id := 12) tab_ok mixed [0, 1, 2, 3, 4, 5, 6, 7] (by kernel_rfl) ?_; conv => whnf) | ((first | refine AW.region tab_ok ?_ | refine AW.cond ?_ | refine AW.skip ?_ | refine AW.ret ?_ | refine AW.exit ?_); conv => whnf) | ((first | refine And.intro (@rfl Val _) ?_ | refine And.intro (by decide) ?_ | refine cs (fun _ => ?_) (fun _ => ?_)) <;> conv => whnf)
      · rename_i h3
        have h3 := of_decide_eq_true h3
        rw [hfin (by simp [hbad, hnn2 h3]) hb]
        exact ⟨rfl, rfl⟩
      · rename_i h3
        have h3 := of_decide_eq_false h3
        rw [wrap64 (x := (j : Int) + 1) (by omega) (by omega)]
        exact ⟨⟨j + 1, hji, hmore h3⟩, ⟨⟨rfl, rfl, rfl, rfl, rfl, trivial⟩, rfl, rfl, ⟨[], rfl⟩, rfl⟩, show i - (j + 1) < i - j by omega⟩
    · rename_i h2
      have := of_decide_eq_false h2
      obtain rfl : j = i := by simp only at this; omega
      rw [wrap64 (x := (j : Int) + 1) (by omega) (by omega)]
      exact ⟨⟨j + 1, hlt, fun q hqj => by
        by_cases e : q = j
        · subst e; rw [hbad, hnf, hnz hq]; rfl
        · exact hb q (by omega)⟩, ⟨⟨rfl, rfl, rfl, rfl, trivial⟩, rfl, rfl, ⟨[], rfl⟩, rfl⟩, show l.length - (j + 1) < l.length - j by omega⟩
  rename_i h1
  simp only [drows_len] at h1
  have := of_decide_eq_false h1
  obtain rfl : i = l.length := by omega
  refine AW.loop (ι := SoE l) (fun x => ⟨100, [(8, .c (.d (.int .i64 x.i))), (5, .c (.ptr 0 0)), (0, .c (.d (.sl 0 15 (drows l)))), (1, .c (.d (.str main)))], [.var [.d (.int .i64 0), .d (.int .i64 0), .d (.str ⟨#[]⟩)]], []⟩)
    (fun x => l.length - x.i) ⟨0, Nat.zero_le _, fun j h => by omega⟩ 1 (fun _ => rfl) (Nat.le_of_ble_eq_true rfl) ⟨⟨rfl, rfl, rfl, rfl, trivial⟩, rfl, rfl, ⟨[], rfl⟩, rfl⟩ (fun x => ?_)
  clear hi h1 this
  obtain ⟨i, hi, he⟩ := x
  repeat' first | refine AW.seq ?_ | refine AW.block ?_ | (refine (_root_.id : AW _ _ _ (.region 7 _ true) _ _ → _) ?_; refine AW.draw (id := 7) tab_ok mixed [0, 1, 2, 3, 4, 5, 6, 7] (by kernel_rfl) ?_; conv => whnf) | (refine (_root_.id : AW _ _ _ (.region 11 _ true) _ _ → _) ?_; refine AW.draw (id := 11) tab_ok mixed [0, 1, 2, 3, 4, 5, 6, 7, 8, 9, 10] (by kernel_rfl) ?_; conv => whnf) | (refine (_root_.id : AW _ _ _ (.region 12 _ true) _ _ → _) ?_; refine AW.draw (id := 12) tab_ok mixed [0, 1, 2, 3, 4, 5, 6, 7] (by kernel_rfl) ?_; conv => whnf) | ((first | refine AW.region tab_ok ?_ | refine AW.cond ?_ | refine AW.skip ?_ | refine AW.ret ?_ | refine AW.exit ?_); conv => whnf) | ((first | refine And.intro (@rfl Val _) ?_ | refine And.intro (by decide) ?_ | refine cs (fun _ => ?_) (fun _ => ?_)) <;> conv => whnf)
  · rename_i h1
    simp only [drows_len] at h1 ⊢
    have := of_decide_eq_true h1
    refine ⟨by omega, fun row hrow => ?_⟩
    obtain ⟨d, hd, rfl⟩ := drows_get (by simpa using hrow)
    have hlt : i < l.length := (List.getElem?_eq_some_iff.1 hd).1
    have hrow2 : (drows l)[i]? = some d.cells := by simp [drows, hd]
    have herr : errAt l i = errD d := by simp [errAt, hd]
    have hfin := soundF_err (main := main) hlen hb hd
    have c1 := dSound_call d.tm
    have c2 := rcheck_call d.ty
    rw [errD_eq] at herr hfin
    obtain ⟨s, ⟨a, bs⟩, ⟨k, name, arg, num, tk, tks, uk, uks, label, place, ks⟩, pl⟩ := d
    simp only at herr hfin c1 c2
    generalize soundD (Tm.node k name arg num tk tks uk uks label place ks) = q1 at *
    generalize tcheck (Ty.node a bs) = q3 at *
    conv => whnf
    repeat' first | ((refine ⟨by rw [drows_len]; omega, fun row hr => ?_⟩; obtain rfl := Option.some.inj (hrow2.symm.trans hr); conv => whnf)) | refine AW.seq ?_ | refine AW.block ?_ | (refine (_root_.id : AW _ _ _ (.region 7 _ true) _ _ → _) ?_; refine AW.draw (id := 7) tab_ok mixed [0, 1, 2, 3, 4, 5, 6, 7] (by kernel_rfl) ?_; conv => whnf) | (refine (_root_.id : AW _ _ _ (.region 11 _ true) _ _ → _) ?_; refine AW.draw (id := 11) tab_ok mixed [0, 1, 2, 3, 4, 5, 6, 7, 8, 9, 10] (by kernel_rfl) ?_; conv => whnf) | (refine (_root_.id : AW _ _ _ (.region 12 _ true) _ _ → _) ?_; refine AW.draw (id := 12) tab_ok mixed [0, 1, 2, 3, 4, 5, 6, 7] (by kernel_rfl) ?_; conv => whnf) | ((first | refine AW.region tab_ok ?_ | refine AW.cond ?_ | refine AW.skip ?_ | refine AW.ret ?_ | refine AW.exit ?_); conv => whnf) | ((first | refine (c1).mono ?_ | refine (c2).mono ?_); rintro _ _ ⟨rfl, rfl⟩; conv => whnf) | ((first | refine And.intro (@rfl Val _) ?_ | refine And.intro (by decide) ?_ | refine cs (fun _ => ?_) (fun _ => ?_)) <;> conv => whnf)
    · rename_i h
      have h : q1 ≠ 0 := bne_iff_ne.1 h
      have hx : (if q1 ≠ 0 then q1 else q3) = q1 := if_pos h
      rw [hx] at hfin
      rw [hfin h he]
      exact ⟨rfl, rfl⟩
    · rename_i h0 h
      have h0 : q1 = 0 := by simpa using h0
      have h : q3 ≠ 0 := bne_iff_ne.1 h
      have hx : (if q1 ≠ 0 then q1 else q3) = q3 := if_neg (by simp [h0])
      rw [hx] at hfin
      rw [hfin h he]
      exact ⟨rfl, rfl⟩
    · rename_i h0 h
      have h0 : q1 = 0 := by simpa using h0
      have h : q3 = 0 := by simpa using h
      rw [wrap64 (x := (i : Int) + 1) (by omega) (by omega)]
      exact ⟨⟨i + 1, hlt, fun q hqj => by
        by_cases e : q = i
        · subst e; rw [herr]; simp [h0, h]
        · exact he q (by omega)⟩, ⟨⟨rfl, rfl, rfl, rfl, trivial⟩, rfl, rfl, ⟨[], rfl⟩, rfl⟩, show l.length - (i + 1) < l.length - i by omega⟩
  rename_i h1
  simp only [drows_len] at h1
  have := of_decide_eq_false h1
  obtain rfl : i = l.length := by omega
  have hend := soundF_end (main := main) hlen hb he
  refine AW.loop (ι := SoM l main) (fun x => ⟨100, [(11, .c (.d (.int .i64 x.i))), (5, .c (.ptr 0 0)), (0, .c (.d (.sl 0 15 (drows l)))), (1, .c (.d (.str main)))], [.var [.d (.int .i64 0), .d (.int .i64 0), .d (.str ⟨#[]⟩)]], []⟩)
    (fun x => l.length - x.i) ⟨0, Nat.zero_le _, fun q e h => by omega⟩ 1 (fun _ => rfl) (Nat.le_of_ble_eq_true rfl) ⟨⟨rfl, rfl, rfl, rfl, trivial⟩, rfl, rfl, ⟨[], rfl⟩, rfl⟩ (fun x => ?_)
  clear hi h1 this he
  obtain ⟨i, hi, hq⟩ := x
  repeat' first | refine AW.seq ?_ | refine AW.block ?_ | (refine (_root_.id : AW _ _ _ (.region 7 _ true) _ _ → _) ?_; refine AW.draw (id := 7) tab_ok mixed [0, 1, 2, 3, 4, 5, 6, 7] (by kernel_rfl) ?_; conv => whnf) | (refine (_root_.id : AW _ _ _ (.region 11 _ true) _ _ → _) ?_; refine AW.draw (id := 11) tab_ok mixed [0, 1, 2, 3, 4, 5, 6, 7, 8, 9, 10] (by kernel_rfl) ?_; conv => whnf) | (refine (_root_.id : AW _ _ _ (.region 12 _ true) _ _ → _) ?_; refine AW.draw (id := 12) tab_ok mixed [0, 1, 2, 3, 4, 5, 6, 7] (by kernel_rfl) ?_; conv => whnf) | ((first | refine AW.region tab_ok ?_ | refine AW.cond ?_ | refine AW.skip ?_ | refine AW.ret ?_ | refine AW.exit ?_); conv => whnf) | ((first | refine And.intro (@rfl Val _) ?_ | refine And.intro (by decide) ?_ | refine cs (fun _ => ?_) (fun _ => ?_)) <;> conv => whnf)
  · rename_i h1
    simp only [drows_len] at h1 ⊢
    have := of_decide_eq_true h1
    refine ⟨by omega, fun row hrow => ?_⟩
    obtain ⟨d, hd, rfl⟩ := drows_get (by simpa using hrow)
    have hlt : i < l.length := (List.getElem?_eq_some_iff.1 hd).1
    have hat := fun h => nix_at (s := main) (k := 0) hd h hq
    have hmore : d.name ≠ main → ∀ (q : Nat) (e' : Df), q < i + 1 → l[q]? = some e' → e'.name ≠ main := fun hn q e' hqj he' => by
      by_cases eq : q = i
      · subst eq; rw [hd] at he'; cases he'; exact hn
      · exact hq q e' (by omega) he'
    obtain ⟨s, ⟨a, bs⟩, ⟨k, name, arg, num, tk, tks, uk, uks, label, place, ks⟩, pl⟩ := d
    simp only at hat hmore
    conv => whnf
    repeat' first | refine AW.seq ?_ | refine AW.block ?_ | (refine (_root_.id : AW _ _ _ (.region 7 _ true) _ _ → _) ?_; refine AW.draw (id := 7) tab_ok mixed [0, 1, 2, 3, 4, 5, 6, 7] (by kernel_rfl) ?_; conv => whnf) | (refine (_root_.id : AW _ _ _ (.region 11 _ true) _ _ → _) ?_; refine AW.draw (id := 11) tab_ok mixed [0, 1, 2, 3, 4, 5, 6, 7, 8, 9, 10] (by kernel_rfl) ?_; conv => whnf) | (refine (_root_.id : AW _ _ _ (.region 12 _ true) _ _ → _) ?_; refine AW.draw (id := 12) tab_ok mixed [0, 1, 2, 3, 4, 5, 6, 7] (by kernel_rfl) ?_; conv => whnf) | ((first | refine AW.region tab_ok ?_ | refine AW.cond ?_ | refine AW.skip ?_ | refine AW.ret ?_ | refine AW.exit ?_); conv => whnf) | ((first | refine And.intro (@rfl Val _) ?_ | refine And.intro (by decide) ?_ | refine cs (fun _ => ?_) (fun _ => ?_)) <;> conv => whnf)
    · rename_i h2
      have h2 := hat (of_decide_eq_true h2)
      rw [hend, if_neg (by omega), h2]
      refine ⟨?_, rfl⟩
      simp only [show (((0 : Nat) : Int) + (i : Int) + 1 - 1) = (i : Int) by omega]
      rfl
    · rename_i h2
      have h2 := hmore (of_decide_eq_false h2)
      rw [wrap64 (x := (i : Int) + 1) (by omega) (by omega)]
      exact ⟨⟨i + 1, hlt, h2⟩, ⟨⟨rfl, rfl, rfl, rfl, trivial⟩, rfl, rfl, ⟨[], rfl⟩, rfl⟩, show l.length - (i + 1) < l.length - i by omega⟩
  rename_i h1
  simp only [drows_len] at h1
  have := of_decide_eq_false h1
  obtain rfl : i = l.length := by omega
  have hz : nix main 0 l = 0 := nix_zero.2 fun e he => by
    obtain ⟨q, hq2⟩ := List.getElem?_of_mem he
    exact hq q e (List.getElem?_eq_some_iff.1 hq2).1 hq2
  rw [hend, if_pos hz]
  exact ⟨rfl, rfl⟩
end Go.Proofs.YthmbncehoblgpaaGreatDoor.E
