/- Free names in the document's answer: a name in a list, a longer list. No conditions. -/
import Derived.Test.YthmbncehoblgpaaGreatDoorFr2
set_option linter.unusedVariables false
set_option linter.unusedSimpArgs false
namespace Go.Proofs.YthmbncehoblgpaaGreatDoor.E
open Go

theorem strs_get {l : List ByteArray} {i : Nat} {row : List DV} (h : (strs l)[i]? = some row) : ∃ s, l[i]? = some s ∧ row = [.str s] := by
  simp only [strs, List.getElem?_map, Option.map_eq_some_iff] at h
  obtain ⟨s, h1, h2⟩ := h
  exact ⟨s, h1, h2.symm⟩
theorem strs_app (l m : List ByteArray) : strs (l ++ m) = strs l ++ strs m := by simp [strs]
def inF (l : List ByteArray) (s : ByteArray) : Bool := l.any fun t => decide (t = s)
theorem inF_iff {l : List ByteArray} {s : ByteArray} : inF l s = true ↔ s ∈ l := by
  simp only [inF, List.any_eq_true, decide_eq_true_eq]
  exact ⟨fun ⟨t, h, e⟩ => e ▸ h, fun h => ⟨s, h, rfl⟩⟩
theorem inF_not {l : List ByteArray} {s : ByteArray} : inF l s = false ↔ s ∉ l := by
  rw [← inF_iff]; simp
structure InI (l : List ByteArray) (s : ByteArray) where
  i : Nat
  hi : i ≤ l.length
  no : s ∉ l.take i
theorem InI.more {l : List ByteArray} {s t : ByteArray} {i : Nat} (h : s ∉ l.take i) (ht : l[i]? = some t) (hne : ¬ t = s) : s ∉ l.take (i + 1) := by
  rw [List.take_add_one, ht]
  simp only [Option.toList, List.mem_append, List.mem_singleton, not_or]
  exact ⟨h, fun e => hne e.symm⟩
set_option maxRecDepth 10000 in
theorem in_call (l : List ByteArray) (s : ByteArray) (hl : l.length ≤ 1000000) : ACall Tryz.prog 38 [.c (.d (.sl 0 1 (strs l))), .c (.d (.str s))] [] (fun o σ => o = .ret (.c (.d (.bool (inF l s)))) ∧ σ = []) := by
  refine ACall.body tab_ok (ρ := 0) (N := 18) Tryz.func38 rfl rfl rfl rfl rfl ?_
  repeat' first | refine AW.seq ?_ | refine AW.block ?_ | ((first | refine AW.region tab_ok ?_ | refine AW.cond ?_ | refine AW.skip ?_ | refine AW.ret ?_ | refine AW.exit ?_); conv => whnf) | ((first | refine And.intro (@rfl Val _) ?_ | refine And.intro (by decide) ?_ | refine cs (fun _ => ?_) (fun _ => ?_)) <;> conv => whnf)
  refine AW.loop (ι := InI l s) (fun x => ⟨18, [(5, .c (.d (.int .i64 x.i))), (0, .c (.d (.sl 0 1 (strs l)))), (1, .c (.d (.str s)))], [], []⟩)
    (fun x => l.length - x.i) ⟨0, Nat.zero_le _, by simp⟩ 0 (fun _ => rfl) (Nat.le_of_ble_eq_true rfl) ⟨⟨rfl, rfl, rfl, trivial⟩, rfl, rfl, ⟨[], rfl⟩, rfl⟩ (fun x => ?_)
  obtain ⟨i, hi, hno⟩ := x
  repeat' first | refine AW.seq ?_ | refine AW.block ?_ | ((first | refine AW.region tab_ok ?_ | refine AW.cond ?_ | refine AW.skip ?_ | refine AW.ret ?_ | refine AW.exit ?_); conv => whnf) | ((first | refine And.intro (@rfl Val _) ?_ | refine And.intro (by decide) ?_ | refine cs (fun _ => ?_) (fun _ => ?_)) <;> conv => whnf)
  · rename_i h1
    simp only [strs_len] at h1 ⊢
    have := of_decide_eq_true h1
    refine ⟨by omega, fun row hrow => ?_⟩
    obtain ⟨t, ht, rfl⟩ := strs_get (by simpa using hrow)
    have hlt : i < l.length := (List.getElem?_eq_some_iff.1 ht).1
    conv => whnf
    repeat' first | refine AW.seq ?_ | refine AW.block ?_ | ((first | refine AW.region tab_ok ?_ | refine AW.cond ?_ | refine AW.skip ?_ | refine AW.ret ?_ | refine AW.exit ?_); conv => whnf) | ((first | refine And.intro (@rfl Val _) ?_ | refine And.intro (by decide) ?_ | refine cs (fun _ => ?_) (fun _ => ?_)) <;> conv => whnf)
    · rename_i h2
      have h2 := of_decide_eq_true h2
      subst h2
      have : inF l t = true := inF_iff.2 (List.mem_of_getElem? ht)
      rw [this]
      exact ⟨rfl, rfl⟩
    · rename_i h2
      have h2 := of_decide_eq_false h2
      rw [wrap64 (x := (i : Int) + 1) (by omega) (by omega)]
      exact ⟨⟨i + 1, hlt, InI.more hno ht h2⟩, ⟨⟨rfl, rfl, rfl, trivial⟩, rfl, rfl, ⟨[], rfl⟩, rfl⟩, show l.length - (i + 1) < l.length - i by omega⟩
  · rename_i h1
    simp only [strs_len] at h1
    have := of_decide_eq_false h1
    have e : inF l s = false := by
      rw [List.take_of_length_le (by omega)] at hno
      exact inF_not.2 hno
    rw [e]
    exact ⟨rfl, rfl⟩
set_option maxRecDepth 10000 in
theorem inO_call (l : List ByteArray) (s : ByteArray) (hl : l.length ≤ 1000000) : ACall Tryz.prog 38 [.c (.own 0 (strs l).length), .c (.d (.str s))] [.row 9 1 (strs l)] (fun o σ => o = .ret (.c (.d (.bool (inF l s)))) ∧ σ = [.row 9 1 (strs l)]) := by
  refine ACall.body tab_ok (ρ := 0) (N := 18) Tryz.func38 rfl rfl rfl rfl rfl ?_
  repeat' first | refine AW.seq ?_ | refine AW.block ?_ | ((first | refine AW.region tab_ok ?_ | refine AW.cond ?_ | refine AW.skip ?_ | refine AW.ret ?_ | refine AW.exit ?_); conv => whnf) | ((first | refine And.intro (@rfl Val _) ?_ | refine And.intro (by decide) ?_ | refine cs (fun _ => ?_) (fun _ => ?_)) <;> conv => whnf)
  refine AW.loop (ι := InI l s) (fun x => ⟨18, [(5, .c (.d (.int .i64 x.i))), (0, .c (.own 0 (strs l).length)), (1, .c (.d (.str s)))], [.row 9 1 (strs l)], []⟩)
    (fun x => l.length - x.i) ⟨0, Nat.zero_le _, by simp⟩ 1 (fun _ => rfl) (Nat.le_of_ble_eq_true rfl) ⟨⟨rfl, rfl, rfl, trivial⟩, rfl, rfl, ⟨[], rfl⟩, rfl⟩ (fun x => ?_)
  obtain ⟨i, hi, hno⟩ := x
  repeat' first | refine AW.seq ?_ | refine AW.block ?_ | ((first | refine AW.region tab_ok ?_ | refine AW.cond ?_ | refine AW.skip ?_ | refine AW.ret ?_ | refine AW.exit ?_); conv => whnf) | ((first | refine And.intro (@rfl Val _) ?_ | refine And.intro (by decide) ?_ | refine cs (fun _ => ?_) (fun _ => ?_)) <;> conv => whnf)
  · rename_i h1
    have hlt : i < l.length := by have := of_decide_eq_true h1; simp only [strs_len] at this; omega
    refine ⟨⟨rfl, by simp only; omega, by simp only [strs_len]; omega⟩, ?_⟩
    conv => whnf
    repeat' first | refine AW.seq ?_ | refine AW.block ?_ | ((first | refine AW.region tab_ok ?_ | refine AW.cond ?_ | refine AW.skip ?_ | refine AW.ret ?_ | refine AW.exit ?_); conv => whnf) | ((first | refine And.intro (@rfl Val _) ?_ | refine And.intro (by decide) ?_ | refine cs (fun _ => ?_) (fun _ => ?_)) <;> conv => whnf)
    refine ⟨⟨rfl, by simp only [strs_len]; omega⟩, fun row hrow => ?_⟩
    obtain ⟨t, ht, rfl⟩ := strs_get (by simpa using hrow)
    conv => whnf
    repeat' first | refine AW.seq ?_ | refine AW.block ?_ | ((first | refine AW.region tab_ok ?_ | refine AW.cond ?_ | refine AW.skip ?_ | refine AW.ret ?_ | refine AW.exit ?_); conv => whnf) | ((first | refine And.intro (@rfl Val _) ?_ | refine And.intro (by decide) ?_ | refine cs (fun _ => ?_) (fun _ => ?_)) <;> conv => whnf)
    · rename_i h2
      have h2 := of_decide_eq_true h2
      subst h2
      have : inF l t = true := inF_iff.2 (List.mem_of_getElem? ht)
      rw [this]
      exact ⟨rfl, rfl⟩
    · rename_i h2
      have h2 := of_decide_eq_false h2
      rw [wrap64 (x := (i : Int) + 1) (by omega) (by omega)]
      exact ⟨⟨i + 1, hlt, InI.more hno ht h2⟩, ⟨⟨rfl, rfl, rfl, trivial⟩, rfl, rfl, ⟨[], rfl⟩, rfl⟩, show l.length - (i + 1) < l.length - i by omega⟩
  · rename_i h1
    simp only [strs_len] at h1
    have := of_decide_eq_false h1
    have e : inF l s = false := by
      rw [List.take_of_length_le (by omega)] at hno
      exact inF_not.2 hno
    rw [e]
    exact ⟨rfl, rfl⟩
structure UpS (l : List ByteArray) where
  i : Nat
  hi : i ≤ l.length
set_option maxRecDepth 10000 in
theorem with_call (l : List ByteArray) (s : ByteArray) (hl : l.length ≤ 1000000) : ACall Tryz.prog 90 [.c (.d (.sl 0 1 (strs l))), .c (.d (.str s))] [] (fun o σ => o = .ret (.c (.d (.sl 0 1 (strs (l ++ [s]))))) ∧ σ = []) := by
  refine ACall.body tab_ok (ρ := 0) (N := 28) Tryz.func90 rfl rfl rfl rfl rfl ?_
  repeat' first | refine AW.seq ?_ | refine AW.block ?_ | ((first | refine AW.region tab_ok ?_ | refine AW.cond ?_ | refine AW.skip ?_ | refine AW.ret ?_ | refine AW.exit ?_); conv => whnf) | ((first | refine And.intro (@rfl Val _) ?_ | refine And.intro (by decide) ?_ | refine cs (fun _ => ?_) (fun _ => ?_)) <;> conv => whnf)
  have hw : IntKind.i64.wrap (((strs l).length : Int) + 1) = l.length + 1 := by rw [strs_len, wrap64 (by omega) (by omega)]
  rw [hw]
  refine ⟨⟨by omega, by omega, by simp only; omega, by omega⟩, ?_⟩
  conv => whnf
  repeat' first | refine AW.seq ?_ | refine AW.block ?_ | ((first | refine AW.region tab_ok ?_ | refine AW.cond ?_ | refine AW.skip ?_ | refine AW.ret ?_ | refine AW.exit ?_); conv => whnf) | ((first | refine And.intro (@rfl Val _) ?_ | refine And.intro (by decide) ?_ | refine cs (fun _ => ?_) (fun _ => ?_)) <;> conv => whnf)
  refine AW.loop (ι := UpS l) (fun x => ⟨28, [(6, .c (.d (.int .i64 x.i))), (5, .c (.own 0 (strs (l.take x.i)).length)), (0, .c (.d (.sl 0 1 (strs l)))), (1, .c (.d (.str s)))], [.row 9 1 (strs (l.take x.i))], []⟩)
    (fun x => l.length - x.i) ⟨0, Nat.zero_le _⟩ 1 (fun _ => rfl) (Nat.le_of_ble_eq_true rfl) ⟨⟨rfl, rfl, rfl, rfl, trivial⟩, rfl, rfl, ⟨[], rfl⟩, rfl⟩ (fun x => ?_)
  obtain ⟨i, hi⟩ := x
  repeat' first | refine AW.seq ?_ | refine AW.block ?_ | ((first | refine AW.region tab_ok ?_ | refine AW.cond ?_ | refine AW.skip ?_ | refine AW.ret ?_ | refine AW.exit ?_); conv => whnf) | ((first | refine And.intro (@rfl Val _) ?_ | refine And.intro (by decide) ?_ | refine cs (fun _ => ?_) (fun _ => ?_)) <;> conv => whnf)
  · rename_i h1
    simp only [strs_len] at h1 ⊢
    have := of_decide_eq_true h1
    refine ⟨by omega, fun row hrow => ?_⟩
    obtain ⟨t, ht, rfl⟩ := strs_get (by simpa using hrow)
    have hlt : i < l.length := (List.getElem?_eq_some_iff.1 ht).1
    have e : strs (l.take i) ++ [[.str t]] = strs (l.take (i + 1)) := by rw [List.take_add_one, ht, strs_app]; rfl
    have el : (strs (l.take i)).length + [[DV.str t]].length = (l.take (i + 1)).length := by simp [strs_len]; omega
    conv => whnf
    repeat' first | refine AW.seq ?_ | refine AW.block ?_ | ((first | refine AW.region tab_ok ?_ | refine AW.cond ?_ | refine AW.skip ?_ | refine AW.ret ?_ | refine AW.exit ?_); conv => whnf) | ((first | refine And.intro (@rfl Val _) ?_ | refine And.intro (by decide) ?_ | refine cs (fun _ => ?_) (fun _ => ?_)) <;> conv => whnf)
    refine ⟨⟨by simp only [strs_len], ?_, ?_⟩, ?_⟩
    · simp only [strs_len, List.length_take, List.length_cons, List.length_nil]; omega
    · simp only [strs_len, List.length_take, List.length_cons, List.length_nil]; omega
    conv => whnf
    repeat' first | refine AW.seq ?_ | refine AW.block ?_ | ((first | refine AW.region tab_ok ?_ | refine AW.cond ?_ | refine AW.skip ?_ | refine AW.ret ?_ | refine AW.exit ?_); conv => whnf) | ((first | refine And.intro (@rfl Val _) ?_ | refine And.intro (by decide) ?_ | refine cs (fun _ => ?_) (fun _ => ?_)) <;> conv => whnf)
    rw [el, e, wrap64 (x := (i : Int) + 1) (by omega) (by omega)]
    exact ⟨⟨i + 1, hlt⟩, ⟨⟨rfl, rfl, rfl, rfl, trivial⟩, rfl, rfl, ⟨[], rfl⟩, rfl⟩, show l.length - (i + 1) < l.length - i by omega⟩
  · rename_i h1
    simp only [strs_len] at h1
    have := of_decide_eq_false h1
    have e : l.take i = l := List.take_of_length_le (by omega)
    simp only [e]
    refine ⟨⟨by simp only [strs_len], ?_, ?_⟩, ?_⟩
    · simp only [strs_len, List.length_cons, List.length_nil]; omega
    · simp only [strs_len, List.length_cons, List.length_nil]; omega
    conv => whnf
    repeat' first | refine AW.seq ?_ | refine AW.block ?_ | ((first | refine AW.region tab_ok ?_ | refine AW.cond ?_ | refine AW.skip ?_ | refine AW.ret ?_ | refine AW.exit ?_); conv => whnf) | ((first | refine And.intro (@rfl Val _) ?_ | refine And.intro (by decide) ?_ | refine cs (fun _ => ?_) (fun _ => ?_)) <;> conv => whnf)
    rw [strs_app]
    refine ⟨by simp [strs_len], ?_⟩
    conv => whnf
    exact ⟨rfl, rfl⟩
end Go.Proofs.YthmbncehoblgpaaGreatDoor.E
