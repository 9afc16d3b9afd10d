/- Walks: types.deep, Depth, right, Check. No conditions. -/
import Derived.Test.YthmbncehoblgpaaGreatDoorTy2
set_option linter.unusedVariables false
set_option linter.unusedSimpArgs false
namespace Go.Proofs.YthmbncehoblgpaaGreatDoor.E
open Go

theorem deepL_take (m : Nat) : ∀ (ks : List Ty) (i : Nat) t, ks[i]? = some t → deepL (ks.take (i + 1)) m = max (deepL (ks.take i) m) (deepF t m)
  | x :: l, 0, t, h => by simp at h; subst h; simp [deepL]
  | x :: l, i + 1, t, h => by
    simp only [List.getElem?_cons_succ] at h
    have := deepL_take m l i t h
    simp only [List.take_succ_cons, deepL, this]
    omega
mutual
theorem deepF_le : ∀ (t : Ty) (m : Nat), deepF t m ≤ m
  | .node k ks, m => by
    simp only [deepF]
    split
    · exact Nat.le_refl m
    · have := deepL_le ks (m - 1)
      omega
theorem deepL_le : ∀ (ks : List Ty) (m : Nat), deepL ks m ≤ m
  | [], m => by simp [deepL]
  | t :: l, m => by
    have := deepF_le t m
    have := deepL_le l m
    simp only [deepL]
    omega
end
structure UpTo (ks : List Ty) where
  i : Nat
  hi : i ≤ ks.length

set_option maxRecDepth 10000 in
theorem deep_call (t : Ty) : nodes t ≤ 8192 → ∀ left : Nat, left ≤ 201 → ACall Tryz.prog 82 [t.val, .c (.d (.int .i64 left))] [] (fun o σ => o = .ret (.c (.d (.int .i64 (deepF t left)))) ∧ σ = []) := by
  induction t using Ty.ind with
  | _ k ks ih =>
  intro hN left hl
  have hlen := nodesL_len ks
  simp only [nodes] at hN
  refine ACall.body tab_ok (ρ := 0) (N := 27) Tryz.func82 rfl rfl rfl rfl rfl ?_
  repeat' first | refine AW.seq ?_ | refine AW.block ?_ | ((first | refine AW.region tab_ok ?_ | refine AW.cond ?_ | refine AW.skip ?_ | refine AW.ret ?_ | refine AW.exit ?_); conv => whnf) | ((first | refine And.intro (@rfl Val _) ?_ | refine And.intro (by decide) ?_ | refine cs (fun _ => ?_) (fun _ => ?_)) <;> conv => whnf)
  · rename_i h
    refine ⟨?_, rfl⟩
    have := of_decide_eq_true h
    simp only [oneOf, deepF]
    rw [if_pos (by omega)]
  · rename_i h
    have hle := of_decide_eq_false h
    refine AW.loop (ι := UpTo ks) (fun x => ⟨27, [(14, .c (.d (.int .i64 x.i))), (13, .c (.d (.int .i64 (Ty.rows ks).length))), (12, .c (.d (.sl 0 2 (Ty.rows ks)))), (5, .c (.d (.int .i64 (deepL (ks.take x.i) (left - 1))))), (1, .c (.d (.int .i64 left)))],
      [.var [.d (.int .i8 k), .d (.sl 0 2 (Ty.rows ks))]], []⟩)
      (fun x => ks.length - x.i) ⟨0, Nat.zero_le _⟩ 1 (fun _ => rfl) (Nat.le_of_ble_eq_true rfl) ⟨⟨rfl, rfl, rfl, rfl, rfl, trivial⟩, rfl, rfl, ⟨[], rfl⟩, rfl⟩ (fun x => ?_)
    obtain ⟨i, hi⟩ := x
    repeat' first | refine AW.seq ?_ | refine AW.block ?_ | ((first | refine AW.region tab_ok ?_ | refine AW.cond ?_ | refine AW.skip ?_ | refine AW.ret ?_ | refine AW.exit ?_); conv => whnf) | ((first | refine And.intro (@rfl Val _) ?_ | refine And.intro (by decide) ?_ | refine cs (fun _ => ?_) (fun _ => ?_)) <;> conv => whnf)
    · rename_i h1
      simp only [rows_length] at h1 ⊢
      have := of_decide_eq_true h1
      refine ⟨by omega, fun row hrow => ?_⟩
      obtain ⟨⟨k', ks'⟩, ht, rfl⟩ := rows_get ks i row (by simpa using hrow)
      have hlt : i < ks.length := (List.getElem?_eq_some_iff.1 ht).1
      conv => whnf
      repeat' first | refine AW.seq ?_ | refine AW.block ?_ | ((first | refine AW.region tab_ok ?_ | refine AW.cond ?_ | refine AW.skip ?_ | refine AW.ret ?_ | refine AW.exit ?_); conv => whnf) | ((first | refine And.intro (@rfl Val _) ?_ | refine And.intro (by decide) ?_ | refine cs (fun _ => ?_) (fun _ => ?_)) <;> conv => whnf)
      have hm := List.mem_of_getElem? ht
      rw [wrap64 (by omega) (by omega), show (left : Int) - 1 = ((left - 1 : Nat) : Int) by omega]
      refine (ih _ hm (by have := nodes_mem ks _ hm; omega) _ (by omega)).mono ?_
      rintro _ _ ⟨rfl, rfl⟩
      conv => whnf
      repeat' first | refine AW.seq ?_ | refine AW.block ?_ | ((first | refine AW.region tab_ok ?_ | refine AW.cond ?_ | refine AW.skip ?_ | refine AW.ret ?_ | refine AW.exit ?_); conv => whnf) | ((first | refine And.intro (@rfl Val _) ?_ | refine And.intro (by decide) ?_ | refine cs (fun _ => ?_) (fun _ => ?_)) <;> conv => whnf)
      rw [wrap64 (x := (i : Int) + 1) (by omega) (by omega), show max (deepL (List.take i ks) (left - 1) : Int) (deepF (Ty.node k' ks') (left - 1) : Int) = (deepL (List.take (i + 1) ks) (left - 1) : Nat) by rw [deepL_take _ ks i _ ht]; omega]
      exact ⟨⟨i + 1, hlt⟩, ⟨⟨rfl, rfl, rfl, rfl, rfl, trivial⟩, rfl, rfl, ⟨[_], rfl⟩, rfl⟩, show ks.length - (i + 1) < ks.length - i by omega⟩
    · rename_i h1
      simp only [rows_length] at h1
      have := of_decide_eq_false h1
      obtain rfl : i = ks.length := by omega
      simp only [List.take_length]
      refine ⟨?_, rfl⟩
      have := deepL_le ks (left - 1)
      simp only [oneOf, deepF]
      rw [if_neg (by omega), wrap64 (by omega) (by omega)]
      rfl
set_option maxRecDepth 10000 in
theorem rdeep_call (t : Ty) : nodes t ≤ 8192 → ∀ left : Nat, left ≤ 201 → ACall Tryz.prog 88 [t.val, .c (.d (.int .i64 left))] [] (fun o σ => o = .ret (.c (.d (.int .i64 (deepF t left)))) ∧ σ = []) := by
  induction t using Ty.ind with
  | _ k ks ih =>
  intro hN left hl
  have hlen := nodesL_len ks
  simp only [nodes] at hN
  refine ACall.body tab_ok (ρ := 0) (N := 31) Tryz.func88 rfl rfl rfl rfl rfl ?_
  repeat' first | refine AW.seq ?_ | refine AW.block ?_ | ((first | refine AW.region tab_ok ?_ | refine AW.cond ?_ | refine AW.skip ?_ | refine AW.ret ?_ | refine AW.exit ?_); conv => whnf) | ((first | refine And.intro (@rfl Val _) ?_ | refine And.intro (by decide) ?_ | refine cs (fun _ => ?_) (fun _ => ?_)) <;> conv => whnf)
  · rename_i h
    refine ⟨?_, rfl⟩
    have := of_decide_eq_true h
    simp only [oneOf, deepF]
    rw [if_pos (by omega)]
  · rename_i h
    have hle := of_decide_eq_false h
    refine AW.loop (ι := UpTo ks) (fun x => ⟨31, [(6, .c (.d (.int .i64 x.i))), (5, .c (.d (.int .i64 (deepL (ks.take x.i) (left - 1))))), (1, .c (.d (.int .i64 left))), (2, .c (.ptr 0 0))],
      [.var [.d (.int .i8 k), .d (.sl 0 2 (Ty.rows ks))]], []⟩)
      (fun x => ks.length - x.i) ⟨0, Nat.zero_le _⟩ 1 (fun _ => rfl) (Nat.le_of_ble_eq_true rfl) ⟨⟨rfl, rfl, rfl, rfl, trivial⟩, rfl, rfl, ⟨[], rfl⟩, rfl⟩ (fun x => ?_)
    obtain ⟨i, hi⟩ := x
    repeat' first | refine AW.seq ?_ | refine AW.block ?_ | ((first | refine AW.region tab_ok ?_ | refine AW.cond ?_ | refine AW.skip ?_ | refine AW.ret ?_ | refine AW.exit ?_); conv => whnf) | ((first | refine And.intro (@rfl Val _) ?_ | refine And.intro (by decide) ?_ | refine cs (fun _ => ?_) (fun _ => ?_)) <;> conv => whnf)
    · rename_i h1
      simp only [rows_length] at h1 ⊢
      have := of_decide_eq_true h1
      refine ⟨by omega, fun row hrow => ?_⟩
      obtain ⟨⟨k', ks'⟩, ht, rfl⟩ := rows_get ks i row (by simpa using hrow)
      have hlt : i < ks.length := (List.getElem?_eq_some_iff.1 ht).1
      conv => whnf
      repeat' first | refine AW.seq ?_ | refine AW.block ?_ | ((first | refine AW.region tab_ok ?_ | refine AW.cond ?_ | refine AW.skip ?_ | refine AW.ret ?_ | refine AW.exit ?_); conv => whnf) | ((first | refine And.intro (@rfl Val _) ?_ | refine And.intro (by decide) ?_ | refine cs (fun _ => ?_) (fun _ => ?_)) <;> conv => whnf)
      have hm := List.mem_of_getElem? ht
      rw [wrap64 (by omega) (by omega), show (left : Int) - 1 = ((left - 1 : Nat) : Int) by omega]
      refine (ih _ hm (by have := nodes_mem ks _ hm; omega) _ (by omega)).mono ?_
      rintro _ _ ⟨rfl, rfl⟩
      conv => whnf
      repeat' first | refine AW.seq ?_ | refine AW.block ?_ | ((first | refine AW.region tab_ok ?_ | refine AW.cond ?_ | refine AW.skip ?_ | refine AW.ret ?_ | refine AW.exit ?_); conv => whnf) | ((first | refine And.intro (@rfl Val _) ?_ | refine And.intro (by decide) ?_ | refine cs (fun _ => ?_) (fun _ => ?_)) <;> conv => whnf)
      rw [wrap64 (x := (i : Int) + 1) (by omega) (by omega), show max (deepL (List.take i ks) (left - 1) : Int) (deepF (Ty.node k' ks') (left - 1) : Int) = (deepL (List.take (i + 1) ks) (left - 1) : Nat) by rw [deepL_take _ ks i _ ht]; omega]
      exact ⟨⟨i + 1, hlt⟩, ⟨⟨rfl, rfl, rfl, rfl, trivial⟩, rfl, rfl, ⟨[], rfl⟩, rfl⟩, show ks.length - (i + 1) < ks.length - i by omega⟩
    · rename_i h1
      simp only [rows_length] at h1
      have := of_decide_eq_false h1
      obtain rfl : i = ks.length := by omega
      simp only [List.take_length]
      refine ⟨?_, rfl⟩
      have := deepL_le ks (left - 1)
      simp only [oneOf, deepF]
      rw [if_neg (by omega), wrap64 (by omega) (by omega)]
      rw [show min (1 + (deepL ks (left - 1) : Int)) (left : Int) = (deepL ks (left - 1) + 1 : Nat) by omega]
set_option maxRecDepth 10000 in
theorem rcount_call (t : Ty) : ∀ n : Nat, n ≤ 8192 → ACall Tryz.prog 87 [t.val, .c (.d (.int .i64 n))] [] (fun o σ => o = .ret (.c (.d (.int .i64 (min (n + nodes t) 8193 : Nat)))) ∧ σ = []) := by
  induction t using Ty.ind with
  | _ k ks ih =>
  intro n hn
  refine ACall.body tab_ok (ρ := 0) (N := 27) Tryz.func87 rfl rfl rfl rfl rfl ?_
  repeat' first | refine AW.seq ?_ | refine AW.block ?_ | ((first | refine AW.region tab_ok ?_ | refine AW.cond ?_ | refine AW.skip ?_ | refine AW.ret ?_ | refine AW.exit ?_); conv => whnf) | ((first | refine And.intro (@rfl Val _) ?_ | refine And.intro (by decide) ?_ | refine cs (fun _ => ?_) (fun _ => ?_)) <;> conv => whnf)
  refine AW.loop (ι := UpTo ks) (fun x => ⟨27, [(5, .c (.d (.int .i64 x.i))), (1, .c (.d (.int .i64 (min (n + 1 + nodesL (ks.take x.i)) 8193 : Nat)))), (2, .c (.ptr 0 0))],
      [.var [.d (.int .i8 k), .d (.sl 0 2 (Ty.rows ks))]], []⟩)
      (fun x => ks.length - x.i) ⟨0, Nat.zero_le _⟩ 1 (fun _ => rfl) (Nat.le_of_ble_eq_true rfl) ⟨⟨rfl, ?_, rfl, trivial⟩, rfl, rfl, ⟨[], rfl⟩, rfl⟩ (fun x => ?_)
  · show Val.c (.d (.int .i64 (IntKind.i64.wrap _))) = _
    rw [wrap64 (by omega) (by omega), List.take_zero, show nodesL [] = 0 by simp [nodesL], Nat.min_eq_left (by omega)]
    rfl
  obtain ⟨i, hi⟩ := x
  repeat' first | refine AW.seq ?_ | refine AW.block ?_ | ((first | refine AW.region tab_ok ?_ | refine AW.cond ?_ | refine AW.skip ?_ | refine AW.ret ?_ | refine AW.exit ?_); conv => whnf) | ((first | refine And.intro (@rfl Val _) ?_ | refine And.intro (by decide) ?_ | refine cs (fun _ => ?_) (fun _ => ?_)) <;> conv => whnf)
  · rename_i h1 h2
    simp only [rows_length] at h1 ⊢
    have := of_decide_eq_true h1
    refine ⟨by omega, fun row hrow => ?_⟩
    obtain ⟨⟨k', ks'⟩, ht, rfl⟩ := rows_get ks i row (by simpa using hrow)
    have hlt : i < ks.length := (List.getElem?_eq_some_iff.1 ht).1
    conv => whnf
    repeat' first | refine AW.seq ?_ | refine AW.block ?_ | ((first | refine AW.region tab_ok ?_ | refine AW.cond ?_ | refine AW.skip ?_ | refine AW.ret ?_ | refine AW.exit ?_); conv => whnf) | ((first | refine And.intro (@rfl Val _) ?_ | refine And.intro (by decide) ?_ | refine cs (fun _ => ?_) (fun _ => ?_)) <;> conv => whnf)
    have hm := List.mem_of_getElem? ht
    have h2 : decide ((min (n + 1 + nodesL (List.take i ks)) 8193 : Nat) ≤ (8192 : Int)) = true := h2
    have h2 := of_decide_eq_true h2
    have hnt := nodesL_take ks i _ ht
    have htl := nodesL_len (ks.take i)
    simp only [List.length_take] at htl
    rw [Nat.min_eq_left (by omega)]
    refine (ih _ hm _ (by omega)).mono ?_
    rintro _ _ ⟨rfl, rfl⟩
    conv => whnf
    repeat' first | refine AW.seq ?_ | refine AW.block ?_ | ((first | refine AW.region tab_ok ?_ | refine AW.cond ?_ | refine AW.skip ?_ | refine AW.ret ?_ | refine AW.exit ?_); conv => whnf) | ((first | refine And.intro (@rfl Val _) ?_ | refine And.intro (by decide) ?_ | refine cs (fun _ => ?_) (fun _ => ?_)) <;> conv => whnf)
    rw [wrap64 (x := (i : Int) + 1) (by omega) (by omega), show n + 1 + nodesL (List.take i ks) + nodes (Ty.node k' ks') = n + 1 + nodesL (List.take (i + 1) ks) by omega]
    exact ⟨⟨i + 1, hlt⟩, ⟨⟨rfl, rfl, rfl, trivial⟩, rfl, rfl, ⟨[], rfl⟩, rfl⟩, show ks.length - (i + 1) < ks.length - i by omega⟩
  · rename_i h1 h2
    have h2 : decide ((min (n + 1 + nodesL (List.take i ks)) 8193 : Nat) ≤ (8192 : Int)) = false := h2
    have h2 := of_decide_eq_false h2
    have := nodesL_le ks i
    refine ⟨?_, rfl⟩
    simp only [oneOf, nodes]
    rw [Nat.min_eq_right (by omega), Nat.min_eq_right (by omega)]
  · rename_i h1
    simp only [rows_length] at h1
    have := of_decide_eq_false h1
    obtain rfl : i = ks.length := by omega
    simp only [List.take_length]
    refine ⟨?_, rfl⟩
    simp only [oneOf, nodes]
    rw [show n + 1 + nodesL ks = n + (nodesL ks + 1) by omega]
end Go.Proofs.YthmbncehoblgpaaGreatDoor.E
