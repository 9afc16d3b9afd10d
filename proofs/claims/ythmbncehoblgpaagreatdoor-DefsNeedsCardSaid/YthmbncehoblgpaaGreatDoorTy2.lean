/- Walks: types.count, Nodes, deep, Depth, right, Check. No conditions. -/
import Derived.Test.YthmbncehoblgpaaGreatDoorTy
import Derived.Test.YthmbncehoblgpaaGreatDoorEngX3
set_option linter.unusedVariables false
set_option linter.unusedSimpArgs false
namespace Go.Proofs.YthmbncehoblgpaaGreatDoor.E
open Go

/-! ### counter.count -/
structure CountI (ks : List Ty) (n : Nat) where
  i : Nat
  hi : i ≤ ks.length
  h : n + 1 + nodesL (ks.take i) ≤ 8192

def countR (t : Ty) (n : Nat) (o : Out) (σ : List AObj) : Prop :=
  (n + nodes t ≤ 8192 ∧ o = .ret (.tup []) ∧ σ = [.var [.d (.int .i64 (n + nodes t : Nat))]]) ∨ (8192 < n + nodes t ∧ o = .pan (.d (.ifa 137 [])) ∧ ∃ m, σ = [.var [.d (.int .i64 m)]])

set_option maxRecDepth 10000 in
theorem count_call (t : Ty) : ∀ n : Nat, n ≤ 8192 → ACall Tryz.prog 81 [.c (.ptr 0 0), t.val] [.var [.d (.int .i64 n)]] (countR t n) := by
  induction t using Ty.ind with
  | _ k ks ih =>
  intro n hn
  refine ACall.body tab_ok (ρ := 0) (N := 31) Tryz.func81 rfl rfl rfl rfl rfl ?_
  repeat' first | refine AW.seq ?_ | refine AW.block ?_ | ((first | refine AW.region tab_ok ?_ | refine AW.cond ?_ | refine AW.skip ?_ | refine AW.ret ?_ | refine AW.exit ?_); conv => whnf) | ((first | refine And.intro (@rfl Val _) ?_ | refine And.intro (by decide) ?_ | refine cs (fun _ => ?_) (fun _ => ?_)) <;> conv => whnf)
  · rename_i h
    refine .inr ⟨?_, rfl, _, rfl⟩
    rw [wrap64 (by omega) (by omega)] at h
    have := nodes_pos (.node k ks)
    simp at h
    simp only [nodes]
    omega
  · rename_i h
    rw [wrap64 (by omega) (by omega)] at h
    simp at h
    refine AW.loop (ι := CountI ks n) (fun x => ⟨31, [(23, .c (.d (.int .i64 x.i))), (22, .c (.d (.int .i64 (Ty.rows ks).length))), (21, .c (.d (.sl 0 2 (Ty.rows ks)))), (0, .c (.ptr 0 0))],
      [.var [.d (.int .i64 (n + 1 + nodesL (ks.take x.i) : Nat))], .var [.d (.int .i8 k), .d (.sl 0 2 (Ty.rows ks))]], []⟩)
      (fun x => ks.length - x.i) ⟨0, Nat.zero_le _, by simp [nodesL]; omega⟩ 2 (fun _ => rfl) (Nat.le_of_ble_eq_true rfl) ⟨⟨rfl, rfl, rfl, rfl, trivial⟩, rfl, rfl, ⟨[], ?_⟩, rfl⟩ (fun x => ?_)
    · rw [wrap64 (by omega) (by omega)]
      simp [nodesL]
    obtain ⟨i, hi, hj⟩ := x
    repeat' first | refine AW.seq ?_ | refine AW.block ?_ | ((first | refine AW.region tab_ok ?_ | refine AW.cond ?_ | refine AW.skip ?_ | refine AW.ret ?_ | refine AW.exit ?_); conv => whnf) | ((first | refine And.intro (@rfl Val _) ?_ | refine And.intro (by decide) ?_ | refine cs (fun _ => ?_) (fun _ => ?_)) <;> conv => whnf)
    · rename_i h1
      simp only [rows_length] at h1 ⊢
      have := of_decide_eq_true h1
      refine ⟨by omega, fun row hrow => ?_⟩
      obtain ⟨⟨k', ks'⟩, ht, rfl⟩ := rows_get ks i row (by simpa using hrow)
      have hlt : i < ks.length := (List.getElem?_eq_some_iff.1 ht).1
      conv => whnf
      repeat' first | refine AW.seq ?_ | refine AW.block ?_ | ((first | refine AW.region tab_ok ?_ | refine AW.cond ?_ | refine AW.skip ?_ | refine AW.ret ?_ | refine AW.exit ?_); conv => whnf) | ((first | refine And.intro (@rfl Val _) ?_ | refine And.intro (by decide) ?_ | refine cs (fun _ => ?_) (fun _ => ?_)) <;> conv => whnf)
      refine (ih _ (List.mem_of_getElem? ht) _ hj).mono ?_
      rintro _ _ (⟨hle, rfl, rfl⟩ | ⟨hgt, rfl, m, rfl⟩)
      · conv => whnf
        repeat' first | refine AW.seq ?_ | refine AW.block ?_ | ((first | refine AW.region tab_ok ?_ | refine AW.cond ?_ | refine AW.skip ?_ | refine AW.ret ?_ | refine AW.exit ?_); conv => whnf) | ((first | refine And.intro (@rfl Val _) ?_ | refine And.intro (by decide) ?_ | refine cs (fun _ => ?_) (fun _ => ?_)) <;> conv => whnf)
        have hnt := nodesL_take ks i _ ht
        have htl := nodesL_len (ks.take i)
        simp only [List.length_take] at htl
        rw [show n + 1 + nodesL (List.take i ks) + nodes (Ty.node k' ks') = n + 1 + nodesL (List.take (i + 1) ks) by omega, wrap64 (x := (i : Int) + 1) (by omega) (by omega)]
        exact ⟨⟨i + 1, hlt, by omega⟩, ⟨⟨rfl, rfl, rfl, rfl, trivial⟩, rfl, rfl, ⟨[_], rfl⟩, rfl⟩, show ks.length - (i + 1) < ks.length - i by omega⟩
      · conv => whnf
        refine .inr ⟨?_, rfl, _, rfl⟩
        have hnt := nodesL_take ks i _ ht
        have := nodesL_le ks (i + 1)
        simp only [nodes] at hgt hnt ⊢
        omega
    · rename_i h1
      simp only [rows_length] at h1
      have := of_decide_eq_false h1
      obtain rfl : i = ks.length := by omega
      simp only [List.take_length] at hj ⊢
      refine .inl ⟨by simp only [nodes]; omega, rfl, ?_⟩
      show [AObj.var [AV.d (DV.int .i64 _)]] = _
      rw [show n + 1 + nodesL ks = n + nodes (Ty.node k ks) by simp only [nodes]; omega]

/-! ### Nodes -/
set_option maxRecDepth 10000 in
theorem recover_nodes (k a c : Int) (rows : List (List DV)) : ADef Tryz.prog 80 [.ptr 1 0] [.var [.d (.int .i8 k), .d (.sl 0 2 rows)], .var [.d (.int .i64 a)], .var [.d (.int .i64 c)]] .ret
    (fun o u σ => o = .ret (.tup []) ∧ u = .ret ∧ σ = [.var [.d (.int .i8 k), .d (.sl 0 2 rows)], .var [.d (.int .i64 a)], .var [.d (.int .i64 c)]]) := by
  refine ADef.recover tab_ok (ρ := 0) (N := 10) (d := 4) Tryz.func80 rfl rfl rfl rfl rfl rfl rfl rfl rfl ?_
  repeat' first | refine AW.seq ?_ | refine AW.block ?_ | ((first | refine AW.region tab_ok ?_ | refine AW.cond ?_ | refine AW.skip ?_ | refine AW.ret ?_ | refine AW.exit ?_); conv => whnf) | ((first | refine And.intro (@rfl Val _) ?_ | refine And.intro (by decide) ?_ | refine cs (fun _ => ?_) (fun _ => ?_)) <;> conv => whnf)
  exact ⟨rfl, rfl, rfl⟩
set_option maxRecDepth 10000 in
theorem recover_great (k a c : Int) (rows : List (List DV)) : ADef Tryz.prog 80 [.ptr 1 0] [.var [.d (.int .i8 k), .d (.sl 0 2 rows)], .var [.d (.int .i64 a)], .var [.d (.int .i64 c)]] (.pan (.d (.ifa 137 [])) false)
    (fun o u σ => o = .ret (.tup []) ∧ u = .pan (.d (.ifa 137 [])) true ∧ σ = [.var [.d (.int .i8 k), .d (.sl 0 2 rows)], .var [.d (.int .i64 8193)], .var [.d (.int .i64 c)], .var []]) := by
  refine ADef.recover tab_ok (ρ := 0) (N := 10) (d := 4) Tryz.func80 rfl rfl rfl rfl rfl rfl rfl rfl rfl ?_
  repeat' first | refine AW.seq ?_ | refine AW.block ?_ | ((first | refine AW.region tab_ok ?_ | refine AW.cond ?_ | refine AW.skip ?_ | refine AW.ret ?_ | refine AW.exit ?_); conv => whnf) | ((first | refine And.intro (@rfl Val _) ?_ | refine And.intro (by decide) ?_ | refine cs (fun _ => ?_) (fun _ => ?_)) <;> conv => whnf)
  exact ⟨rfl, rfl, rfl⟩
set_option maxRecDepth 10000 in
theorem nodes_call (t : Ty) : ACall Tryz.prog 52 [t.val] [] (fun o σ => o = .ret (.c (.d (.int .i64 (min (nodes t) 8193 : Nat)))) ∧ σ = []) := by
  obtain ⟨k, ks⟩ := t
  refine ACall.bodyD tab_ok (ρ := 0) (N := 14) Tryz.func52 rfl rfl rfl rfl rfl ?_
  repeat' first | refine AW.seq ?_ | refine AW.block ?_ | ((first | refine AW.region tab_ok ?_ | refine AW.cond ?_ | refine AW.skip ?_ | refine AW.ret ?_ | refine AW.exit ?_); conv => whnf) | ((first | refine And.intro (@rfl Val _) ?_ | refine And.intro (by decide) ?_ | refine cs (fun _ => ?_) (fun _ => ?_)) <;> conv => whnf)
  refine (count_call (.node k ks) 0 (by omega)).mono ?_
  rintro _ _ (⟨hle, rfl, rfl⟩ | ⟨hgt, rfl, m, rfl⟩)
  · conv => whnf
    repeat' first | refine AW.seq ?_ | refine AW.block ?_ | ((first | refine AW.region tab_ok ?_ | refine AW.cond ?_ | refine AW.skip ?_ | refine AW.ret ?_ | refine AW.exit ?_); conv => whnf) | ((first | refine And.intro (@rfl Val _) ?_ | refine And.intro (by decide) ?_ | refine cs (fun _ => ?_) (fun _ => ?_)) <;> conv => whnf)
    refine (recover_nodes _ _ _ _).mono ?_
    rintro _ _ _ ⟨rfl, rfl, rfl⟩
    conv => whnf
    refine ⟨?_, rfl⟩
    rw [Nat.zero_add] at *
    rw [Nat.min_eq_left (by omega)]
    rfl
  · conv => whnf
    refine (recover_great _ _ _ _).mono ?_
    rintro _ _ _ ⟨rfl, rfl, rfl⟩
    conv => whnf
    refine ⟨?_, rfl⟩
    rw [Nat.min_eq_right (by omega)]
    rfl
end Go.Proofs.YthmbncehoblgpaaGreatDoor.E
