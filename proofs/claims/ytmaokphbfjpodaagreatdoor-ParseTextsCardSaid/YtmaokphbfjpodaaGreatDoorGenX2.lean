/- Texts, merged: Ty, Ty2, Ty3, Ty4. No conditions. -/
import Derived.Test.YtmaokphbfjpodaaGreatDoorTab
import Derived.Test.YtmaokphbfjpodaaGreatDoorEngX3
/- Types as trees; what the program's functions over types compute. No conditions. -/
set_option linter.unusedVariables false
set_option linter.unusedSimpArgs false
namespace Go.Proofs.YtmaokphbfjpodaaGreatDoor.E
open Go

theorem cs {b : Bool} {X Y : Prop} (h1 : b = true → X) (h2 : b = false → Y) : cond b X Y := by
  cases b
  · exact h2 rfl
  · exact h1 rfl

theorem wrap64 {x : Int} (h1 : -9223372036854775808 ≤ x) (h2 : x ≤ 9223372036854775807) : IntKind.i64.wrap x = x := by
  unfold IntKind.wrap
  simp only [IntKind.bits, IntKind.signed, show ((2 : Int) ^ 64) = 18446744073709551616 from rfl, show ((2 : Int) ^ (64 - 1)) = 9223372036854775808 from rfl, Bool.true_and, decide_eq_true_eq]
  split <;> omega

inductive Ty where
  | node (k : Int) (kids : List Ty)
mutual
def Ty.cells : Ty → List DV
  | .node k ks => [.int .i8 k, .sl 0 2 (Ty.rows ks)]
def Ty.rows : List Ty → List (List DV)
  | [] => []
  | t :: l => Ty.cells t :: Ty.rows l
end
/-- A type, as a value. -/
def Ty.val (t : Ty) : Val := .agg (t.cells.map .d)

theorem rows_length : ∀ ks, (Ty.rows ks).length = ks.length
  | [] => rfl
  | _ :: l => by simp [Ty.rows, rows_length l]
theorem rows_get : ∀ (ks : List Ty) (i : Nat) row, (Ty.rows ks)[i]? = some row → ∃ t, ks[i]? = some t ∧ row = Ty.cells t
  | [], i, row, h => by simp [Ty.rows] at h
  | t :: l, 0, row, h => by simp [Ty.rows] at h; exact ⟨t, rfl, h.symm⟩
  | t :: l, i + 1, row, h => by simp only [Ty.rows, List.getElem?_cons_succ] at h ⊢; exact rows_get l i row h

mutual
def nodes : Ty → Nat
  | .node _ ks => nodesL ks + 1
def nodesL : List Ty → Nat
  | [] => 0
  | t :: l => nodes t + nodesL l
end
theorem nodesL_take : ∀ (ks : List Ty) (i : Nat) t, ks[i]? = some t → nodesL (ks.take (i + 1)) = nodesL (ks.take i) + nodes t
  | x :: l, 0, t, h => by simp at h; subst h; simp [nodesL]
  | x :: l, i + 1, t, h => by
    simp only [List.getElem?_cons_succ] at h
    have := nodesL_take l i t h
    simp only [List.take_succ_cons, nodesL, this]
    omega
theorem nodesL_le : ∀ (ks : List Ty) (i : Nat), nodesL (ks.take i) ≤ nodesL ks
  | [], i => by simp
  | x :: l, 0 => by simp [nodesL]
  | x :: l, i + 1 => by
    have := nodesL_le l i
    simp only [List.take_succ_cons, nodesL]
    omega
theorem nodes_pos (t : Ty) : 0 < nodes t := by cases t; simp [nodes]
theorem nodesL_len : ∀ (ks : List Ty), ks.length ≤ nodesL ks
  | [] => by simp [nodesL]
  | x :: l => by
    have := nodesL_len l
    have := nodes_pos x
    simp only [List.length_cons, nodesL]
    omega
theorem nodes_mem : ∀ (ks : List Ty) (t : Ty), t ∈ ks → nodes t ≤ nodesL ks
  | x :: l, t, h => by
    simp only [nodesL]
    rcases List.mem_cons.1 h with rfl | h
    · omega
    · have := nodes_mem l t h; omega
theorem Ty.ind {Q : Ty → Prop} (h : ∀ k ks, (∀ t ∈ ks, Q t) → Q (.node k ks)) : ∀ t, Q t := by
  intro t
  have : ∀ n t, nodes t ≤ n → Q t := by
    intro n
    induction n with
    | zero => intro t ht; have := nodes_pos t; omega
    | succ n ih =>
      rintro ⟨k, ks⟩ ht
      refine h k ks fun t hm => ih t ?_
      have := nodes_mem ks t hm
      simp only [nodes] at ht
      omega
  exact this _ t (Nat.le_refl _)

def parts (k : Int) : Int := if k = 0 ∨ k = 1 ∨ k = 2 then 0 else if k = 3 ∨ k = 4 ∨ k = 5 then 2 else -1
mutual
def tright : Ty → Bool
  | .node k ks => decide (parts k = ks.length) && trights ks
def trights : List Ty → Bool
  | [] => true
  | t :: l => tright t && trights l
end
theorem trights_all : ∀ (ks : List Ty), trights ks = true ↔ ∀ t ∈ ks, tright t = true
  | [] => by simp [trights]
  | t :: l => by simp [trights, trights_all l]
mutual
def deepF : Ty → Nat → Nat
  | .node _ ks, left => if left ≤ 1 then left else deepL ks (left - 1) + 1
def deepL : List Ty → Nat → Nat
  | [], _ => 0
  | t :: l, left => max (deepF t left) (deepL l left)
end
def tcheck (t : Ty) : Int := if nodes t > 8192 then 32 else if deepF t 201 > 200 then 31 else if tright t then 0 else 20

/-! ### parts, Kids -/
set_option maxRecDepth 10000 in
theorem parts_call (k : Int) : ACall Tryz.prog 135 [.c (.d (.int .i8 k))] [] (fun o σ => o = .ret (.c (.d (.int .i64 (parts k)))) ∧ σ = []) := by
  refine ACall.body tab_ok (ρ := 0) (N := 12) Tryz.func135 rfl rfl rfl rfl rfl ?_
  repeat' first | refine AW.seq ?_ | refine AW.block ?_ | ((first | refine AW.region tab_ok ?_ | refine AW.cond ?_ | refine AW.skip ?_ | refine AW.ret ?_ | refine AW.exit ?_); conv => whnf) | ((first | refine And.intro (@rfl Val _) ?_ | refine And.intro (by decide) ?_ | refine cs (fun _ => ?_) (fun _ => ?_)) <;> conv => whnf)
  all_goals (refine ⟨?_, rfl⟩; simp_all [oneOf, parts])
set_option maxRecDepth 10000 in
theorem kids_call (k : Int) : ACall Tryz.prog 159 [.c (.d (.int .i8 k))] [] (fun o σ => o = .ret (.c (.d (.int .i64 (parts k)))) ∧ σ = []) := by
  refine ACall.body tab_ok (ρ := 0) (N := 12) Tryz.func159 rfl rfl rfl rfl rfl ?_
  repeat' first | refine AW.seq ?_ | refine AW.block ?_ | ((first | refine AW.region tab_ok ?_ | refine AW.cond ?_ | refine AW.skip ?_ | refine AW.ret ?_ | refine AW.exit ?_); conv => whnf) | ((first | refine And.intro (@rfl Val _) ?_ | refine And.intro (by decide) ?_ | refine cs (fun _ => ?_) (fun _ => ?_)) <;> conv => whnf)
  all_goals (refine ⟨?_, rfl⟩; simp_all [oneOf, parts])
end Go.Proofs.YtmaokphbfjpodaaGreatDoor.E

/- Walks: types.count, Nodes, deep, Depth, right, Check. No conditions. -/
set_option linter.unusedVariables false
set_option linter.unusedSimpArgs false
namespace Go.Proofs.YtmaokphbfjpodaaGreatDoor.E
open Go

/-! ### counter.count -/
structure CountI (ks : List Ty) (n : Nat) where
  i : Nat
  hi : i ≤ ks.length
  h : n + 1 + nodesL (ks.take i) ≤ 8192

def countR (t : Ty) (n : Nat) (o : Out) (σ : List AObj) : Prop :=
  (n + nodes t ≤ 8192 ∧ o = .ret (.tup []) ∧ σ = [.var [.d (.int .i64 (n + nodes t : Nat))]]) ∨ (8192 < n + nodes t ∧ o = .pan (.d (.ifa 191 [])) ∧ ∃ m, σ = [.var [.d (.int .i64 m)]])

set_option maxRecDepth 10000 in
theorem count_call (t : Ty) : ∀ n : Nat, n ≤ 8192 → ACall Tryz.prog 133 [.c (.ptr 0 0), t.val] [.var [.d (.int .i64 n)]] (countR t n) := by
  induction t using Ty.ind with
  | _ k ks ih =>
  intro n hn
  refine ACall.body tab_ok (ρ := 0) (N := 31) Tryz.func133 rfl rfl rfl rfl rfl ?_
  repeat' first | refine AW.seq ?_ | refine AW.block ?_ | ((first | refine AW.region tab_ok ?_ | refine AW.cond ?_ | refine AW.skip ?_ | refine AW.ret ?_ | refine AW.exit ?_); conv => whnf) | ((first | refine And.intro (@rfl Val _) ?_ | refine And.intro (by decide) ?_ | refine cs (fun _ => ?_) (fun _ => ?_)) <;> conv => whnf)
  · rename_i h
    refine .inr ⟨?_, rfl, _, rfl⟩
    rw [wrap64 (by omega) (by omega)] at h
    have := nodes_pos (.node k ks)
    simp at h
    simp only [nodes]
    omega
  · rename_i h
    rw [wrap64 (by omega) (by omega)] at h
    simp at h
    refine AW.loop (ι := CountI ks n) (fun x => ⟨31, [(23, .c (.d (.int .i64 x.i))), (22, .c (.d (.int .i64 (Ty.rows ks).length))), (21, .c (.d (.sl 0 2 (Ty.rows ks)))), (0, .c (.ptr 0 0))],
      [.var [.d (.int .i64 (n + 1 + nodesL (ks.take x.i) : Nat))], .var [.d (.int .i8 k), .d (.sl 0 2 (Ty.rows ks))]], []⟩)
      (fun x => ks.length - x.i) ⟨0, Nat.zero_le _, by simp [nodesL]; omega⟩ 2 (fun _ => rfl) (Nat.le_of_ble_eq_true rfl) ⟨⟨rfl, rfl, rfl, rfl, trivial⟩, rfl, rfl, ⟨[], ?_⟩, rfl⟩ (fun x => ?_)
    · rw [wrap64 (by omega) (by omega)]
      simp [nodesL]
    obtain ⟨i, hi, hj⟩ := x
    repeat' first | refine AW.seq ?_ | refine AW.block ?_ | ((first | refine AW.region tab_ok ?_ | refine AW.cond ?_ | refine AW.skip ?_ | refine AW.ret ?_ | refine AW.exit ?_); conv => whnf) | ((first | refine And.intro (@rfl Val _) ?_ | refine And.intro (by decide) ?_ | refine cs (fun _ => ?_) (fun _ => ?_)) <;> conv => whnf)
    · rename_i h1
      simp only [rows_length] at h1 ⊢
      have := of_decide_eq_true h1
      refine ⟨by omega, fun row hrow => ?_⟩
      obtain ⟨⟨k', ks'⟩, ht, rfl⟩ := rows_get ks i row (by simpa using hrow)
      have hlt : i < ks.length := (List.getElem?_eq_some_iff.1 ht).1
      conv => whnf
      repeat' first | refine AW.seq ?_ | refine AW.block ?_ | ((first | refine AW.region tab_ok ?_ | refine AW.cond ?_ | refine AW.skip ?_ | refine AW.ret ?_ | refine AW.exit ?_); conv => whnf) | ((first | refine And.intro (@rfl Val _) ?_ | refine And.intro (by decide) ?_ | refine cs (fun _ => ?_) (fun _ => ?_)) <;> conv => whnf)
      refine (ih _ (List.mem_of_getElem? ht) _ hj).mono ?_
      rintro _ _ (⟨hle, rfl, rfl⟩ | ⟨hgt, rfl, m, rfl⟩)
      · conv => whnf
        repeat' first | refine AW.seq ?_ | refine AW.block ?_ | ((first | refine AW.region tab_ok ?_ | refine AW.cond ?_ | refine AW.skip ?_ | refine AW.ret ?_ | refine AW.exit ?_); conv => whnf) | ((first | refine And.intro (@rfl Val _) ?_ | refine And.intro (by decide) ?_ | refine cs (fun _ => ?_) (fun _ => ?_)) <;> conv => whnf)
        have hnt := nodesL_take ks i _ ht
        have htl := nodesL_len (ks.take i)
        simp only [List.length_take] at htl
        rw [show n + 1 + nodesL (List.take i ks) + nodes (Ty.node k' ks') = n + 1 + nodesL (List.take (i + 1) ks) by omega, wrap64 (x := (i : Int) + 1) (by omega) (by omega)]
        exact ⟨⟨i + 1, hlt, by omega⟩, ⟨⟨rfl, rfl, rfl, rfl, trivial⟩, rfl, rfl, ⟨[_], rfl⟩, rfl⟩, show ks.length - (i + 1) < ks.length - i by omega⟩
      · conv => whnf
        refine .inr ⟨?_, rfl, _, rfl⟩
        have hnt := nodesL_take ks i _ ht
        have := nodesL_le ks (i + 1)
        simp only [nodes] at hgt hnt ⊢
        omega
    · rename_i h1
      simp only [rows_length] at h1
      have := of_decide_eq_false h1
      obtain rfl : i = ks.length := by omega
      simp only [List.take_length] at hj ⊢
      refine .inl ⟨by simp only [nodes]; omega, rfl, ?_⟩
      show [AObj.var [AV.d (DV.int .i64 _)]] = _
      rw [show n + 1 + nodesL ks = n + nodes (Ty.node k ks) by simp only [nodes]; omega]

/-! ### Nodes -/
set_option maxRecDepth 10000 in
theorem recover_nodes (k a c : Int) (rows : List (List DV)) : ADef Tryz.prog 132 [.ptr 1 0] [.var [.d (.int .i8 k), .d (.sl 0 2 rows)], .var [.d (.int .i64 a)], .var [.d (.int .i64 c)]] .ret
    (fun o u σ => o = .ret (.tup []) ∧ u = .ret ∧ σ = [.var [.d (.int .i8 k), .d (.sl 0 2 rows)], .var [.d (.int .i64 a)], .var [.d (.int .i64 c)]]) := by
  refine ADef.recover tab_ok (ρ := 0) (N := 10) (d := 4) Tryz.func132 rfl rfl rfl rfl rfl rfl rfl rfl rfl ?_
  repeat' first | refine AW.seq ?_ | refine AW.block ?_ | ((first | refine AW.region tab_ok ?_ | refine AW.cond ?_ | refine AW.skip ?_ | refine AW.ret ?_ | refine AW.exit ?_); conv => whnf) | ((first | refine And.intro (@rfl Val _) ?_ | refine And.intro (by decide) ?_ | refine cs (fun _ => ?_) (fun _ => ?_)) <;> conv => whnf)
  exact ⟨rfl, rfl, rfl⟩
set_option maxRecDepth 10000 in
theorem recover_great (k a c : Int) (rows : List (List DV)) : ADef Tryz.prog 132 [.ptr 1 0] [.var [.d (.int .i8 k), .d (.sl 0 2 rows)], .var [.d (.int .i64 a)], .var [.d (.int .i64 c)]] (.pan (.d (.ifa 191 [])) false)
    (fun o u σ => o = .ret (.tup []) ∧ u = .pan (.d (.ifa 191 [])) true ∧ σ = [.var [.d (.int .i8 k), .d (.sl 0 2 rows)], .var [.d (.int .i64 8193)], .var [.d (.int .i64 c)], .var []]) := by
  refine ADef.recover tab_ok (ρ := 0) (N := 10) (d := 4) Tryz.func132 rfl rfl rfl rfl rfl rfl rfl rfl rfl ?_
  repeat' first | refine AW.seq ?_ | refine AW.block ?_ | ((first | refine AW.region tab_ok ?_ | refine AW.cond ?_ | refine AW.skip ?_ | refine AW.ret ?_ | refine AW.exit ?_); conv => whnf) | ((first | refine And.intro (@rfl Val _) ?_ | refine And.intro (by decide) ?_ | refine cs (fun _ => ?_) (fun _ => ?_)) <;> conv => whnf)
  exact ⟨rfl, rfl, rfl⟩
set_option maxRecDepth 10000 in
theorem nodes_call (t : Ty) : ACall Tryz.prog 104 [t.val] [] (fun o σ => o = .ret (.c (.d (.int .i64 (min (nodes t) 8193 : Nat)))) ∧ σ = []) := by
  obtain ⟨k, ks⟩ := t
  refine ACall.bodyD tab_ok (ρ := 0) (N := 14) Tryz.func104 rfl rfl rfl rfl rfl ?_
  repeat' first | refine AW.seq ?_ | refine AW.block ?_ | ((first | refine AW.region tab_ok ?_ | refine AW.cond ?_ | refine AW.skip ?_ | refine AW.ret ?_ | refine AW.exit ?_); conv => whnf) | ((first | refine And.intro (@rfl Val _) ?_ | refine And.intro (by decide) ?_ | refine cs (fun _ => ?_) (fun _ => ?_)) <;> conv => whnf)
  refine (count_call (.node k ks) 0 (by omega)).mono ?_
  rintro _ _ (⟨hle, rfl, rfl⟩ | ⟨hgt, rfl, m, rfl⟩)
  · conv => whnf
    repeat' first | refine AW.seq ?_ | refine AW.block ?_ | ((first | refine AW.region tab_ok ?_ | refine AW.cond ?_ | refine AW.skip ?_ | refine AW.ret ?_ | refine AW.exit ?_); conv => whnf) | ((first | refine And.intro (@rfl Val _) ?_ | refine And.intro (by decide) ?_ | refine cs (fun _ => ?_) (fun _ => ?_)) <;> conv => whnf)
    refine (recover_nodes _ _ _ _).mono ?_
    rintro _ _ _ ⟨rfl, rfl, rfl⟩
    conv => whnf
    refine ⟨?_, rfl⟩
    rw [Nat.zero_add] at *
    rw [Nat.min_eq_left (by omega)]
    rfl
  · conv => whnf
    refine (recover_great _ _ _ _).mono ?_
    rintro _ _ _ ⟨rfl, rfl, rfl⟩
    conv => whnf
    refine ⟨?_, rfl⟩
    rw [Nat.min_eq_right (by omega)]
    rfl
end Go.Proofs.YtmaokphbfjpodaaGreatDoor.E

/- Walks: types.deep, Depth, right, Check. No conditions. -/
set_option linter.unusedVariables false
set_option linter.unusedSimpArgs false
namespace Go.Proofs.YtmaokphbfjpodaaGreatDoor.E
open Go

theorem deepL_take (m : Nat) : ∀ (ks : List Ty) (i : Nat) t, ks[i]? = some t → deepL (ks.take (i + 1)) m = max (deepL (ks.take i) m) (deepF t m)
  | x :: l, 0, t, h => by simp at h; subst h; simp [deepL]
  | x :: l, i + 1, t, h => by
    simp only [List.getElem?_cons_succ] at h
    have := deepL_take m l i t h
    simp only [List.take_succ_cons, deepL, this]
    omega
mutual
theorem deepF_le : ∀ (t : Ty) (m : Nat), deepF t m ≤ m
  | .node k ks, m => by
    simp only [deepF]
    split
    · exact Nat.le_refl m
    · have := deepL_le ks (m - 1)
      omega
theorem deepL_le : ∀ (ks : List Ty) (m : Nat), deepL ks m ≤ m
  | [], m => by simp [deepL]
  | t :: l, m => by
    have := deepF_le t m
    have := deepL_le l m
    simp only [deepL]
    omega
end
structure UpTo (ks : List Ty) where
  i : Nat
  hi : i ≤ ks.length

set_option maxRecDepth 10000 in
theorem deep_call (t : Ty) : nodes t ≤ 8192 → ∀ left : Nat, left ≤ 201 → ACall Tryz.prog 134 [t.val, .c (.d (.int .i64 left))] [] (fun o σ => o = .ret (.c (.d (.int .i64 (deepF t left)))) ∧ σ = []) := by
  induction t using Ty.ind with
  | _ k ks ih =>
  intro hN left hl
  have hlen := nodesL_len ks
  simp only [nodes] at hN
  refine ACall.body tab_ok (ρ := 0) (N := 27) Tryz.func134 rfl rfl rfl rfl rfl ?_
  repeat' first | refine AW.seq ?_ | refine AW.block ?_ | ((first | refine AW.region tab_ok ?_ | refine AW.cond ?_ | refine AW.skip ?_ | refine AW.ret ?_ | refine AW.exit ?_); conv => whnf) | ((first | refine And.intro (@rfl Val _) ?_ | refine And.intro (by decide) ?_ | refine cs (fun _ => ?_) (fun _ => ?_)) <;> conv => whnf)
  · rename_i h
    refine ⟨?_, rfl⟩
    have := of_decide_eq_true h
    simp only [oneOf, deepF]
    rw [if_pos (by omega)]
  · rename_i h
    have hle := of_decide_eq_false h
    refine AW.loop (ι := UpTo ks) (fun x => ⟨27, [(14, .c (.d (.int .i64 x.i))), (13, .c (.d (.int .i64 (Ty.rows ks).length))), (12, .c (.d (.sl 0 2 (Ty.rows ks)))), (5, .c (.d (.int .i64 (deepL (ks.take x.i) (left - 1))))), (1, .c (.d (.int .i64 left)))],
      [.var [.d (.int .i8 k), .d (.sl 0 2 (Ty.rows ks))]], []⟩)
      (fun x => ks.length - x.i) ⟨0, Nat.zero_le _⟩ 1 (fun _ => rfl) (Nat.le_of_ble_eq_true rfl) ⟨⟨rfl, rfl, rfl, rfl, rfl, trivial⟩, rfl, rfl, ⟨[], rfl⟩, rfl⟩ (fun x => ?_)
    obtain ⟨i, hi⟩ := x
    repeat' first | refine AW.seq ?_ | refine AW.block ?_ | ((first | refine AW.region tab_ok ?_ | refine AW.cond ?_ | refine AW.skip ?_ | refine AW.ret ?_ | refine AW.exit ?_); conv => whnf) | ((first | refine And.intro (@rfl Val _) ?_ | refine And.intro (by decide) ?_ | refine cs (fun _ => ?_) (fun _ => ?_)) <;> conv => whnf)
    · rename_i h1
      simp only [rows_length] at h1 ⊢
      have := of_decide_eq_true h1
      refine ⟨by omega, fun row hrow => ?_⟩
      obtain ⟨⟨k', ks'⟩, ht, rfl⟩ := rows_get ks i row (by simpa using hrow)
      have hlt : i < ks.length := (List.getElem?_eq_some_iff.1 ht).1
      conv => whnf
      repeat' first | refine AW.seq ?_ | refine AW.block ?_ | ((first | refine AW.region tab_ok ?_ | refine AW.cond ?_ | refine AW.skip ?_ | refine AW.ret ?_ | refine AW.exit ?_); conv => whnf) | ((first | refine And.intro (@rfl Val _) ?_ | refine And.intro (by decide) ?_ | refine cs (fun _ => ?_) (fun _ => ?_)) <;> conv => whnf)
      have hm := List.mem_of_getElem? ht
      rw [wrap64 (by omega) (by omega), show (left : Int) - 1 = ((left - 1 : Nat) : Int) by omega]
      refine (ih _ hm (by have := nodes_mem ks _ hm; omega) _ (by omega)).mono ?_
      rintro _ _ ⟨rfl, rfl⟩
      conv => whnf
      repeat' first | refine AW.seq ?_ | refine AW.block ?_ | ((first | refine AW.region tab_ok ?_ | refine AW.cond ?_ | refine AW.skip ?_ | refine AW.ret ?_ | refine AW.exit ?_); conv => whnf) | ((first | refine And.intro (@rfl Val _) ?_ | refine And.intro (by decide) ?_ | refine cs (fun _ => ?_) (fun _ => ?_)) <;> conv => whnf)
      rw [wrap64 (x := (i : Int) + 1) (by omega) (by omega), show max (deepL (List.take i ks) (left - 1) : Int) (deepF (Ty.node k' ks') (left - 1) : Int) = (deepL (List.take (i + 1) ks) (left - 1) : Nat) by rw [deepL_take _ ks i _ ht]; omega]
      exact ⟨⟨i + 1, hlt⟩, ⟨⟨rfl, rfl, rfl, rfl, rfl, trivial⟩, rfl, rfl, ⟨[_], rfl⟩, rfl⟩, show ks.length - (i + 1) < ks.length - i by omega⟩
    · rename_i h1
      simp only [rows_length] at h1
      have := of_decide_eq_false h1
      obtain rfl : i = ks.length := by omega
      simp only [List.take_length]
      refine ⟨?_, rfl⟩
      have := deepL_le ks (left - 1)
      simp only [oneOf, deepF]
      rw [if_neg (by omega), wrap64 (by omega) (by omega)]
      rfl
set_option maxRecDepth 10000 in
theorem rdeep_call (t : Ty) : nodes t ≤ 8192 → ∀ left : Nat, left ≤ 201 → ACall Tryz.prog 150 [t.val, .c (.d (.int .i64 left))] [] (fun o σ => o = .ret (.c (.d (.int .i64 (deepF t left)))) ∧ σ = []) := by
  induction t using Ty.ind with
  | _ k ks ih =>
  intro hN left hl
  have hlen := nodesL_len ks
  simp only [nodes] at hN
  refine ACall.body tab_ok (ρ := 0) (N := 31) Tryz.func150 rfl rfl rfl rfl rfl ?_
  repeat' first | refine AW.seq ?_ | refine AW.block ?_ | ((first | refine AW.region tab_ok ?_ | refine AW.cond ?_ | refine AW.skip ?_ | refine AW.ret ?_ | refine AW.exit ?_); conv => whnf) | ((first | refine And.intro (@rfl Val _) ?_ | refine And.intro (by decide) ?_ | refine cs (fun _ => ?_) (fun _ => ?_)) <;> conv => whnf)
  · rename_i h
    refine ⟨?_, rfl⟩
    have := of_decide_eq_true h
    simp only [oneOf, deepF]
    rw [if_pos (by omega)]
  · rename_i h
    have hle := of_decide_eq_false h
    refine AW.loop (ι := UpTo ks) (fun x => ⟨31, [(6, .c (.d (.int .i64 x.i))), (5, .c (.d (.int .i64 (deepL (ks.take x.i) (left - 1))))), (1, .c (.d (.int .i64 left))), (2, .c (.ptr 0 0))],
      [.var [.d (.int .i8 k), .d (.sl 0 2 (Ty.rows ks))]], []⟩)
      (fun x => ks.length - x.i) ⟨0, Nat.zero_le _⟩ 1 (fun _ => rfl) (Nat.le_of_ble_eq_true rfl) ⟨⟨rfl, rfl, rfl, rfl, trivial⟩, rfl, rfl, ⟨[], rfl⟩, rfl⟩ (fun x => ?_)
    obtain ⟨i, hi⟩ := x
    repeat' first | refine AW.seq ?_ | refine AW.block ?_ | ((first | refine AW.region tab_ok ?_ | refine AW.cond ?_ | refine AW.skip ?_ | refine AW.ret ?_ | refine AW.exit ?_); conv => whnf) | ((first | refine And.intro (@rfl Val _) ?_ | refine And.intro (by decide) ?_ | refine cs (fun _ => ?_) (fun _ => ?_)) <;> conv => whnf)
    · rename_i h1
      simp only [rows_length] at h1 ⊢
      have := of_decide_eq_true h1
      refine ⟨by omega, fun row hrow => ?_⟩
      obtain ⟨⟨k', ks'⟩, ht, rfl⟩ := rows_get ks i row (by simpa using hrow)
      have hlt : i < ks.length := (List.getElem?_eq_some_iff.1 ht).1
      conv => whnf
      repeat' first | refine AW.seq ?_ | refine AW.block ?_ | ((first | refine AW.region tab_ok ?_ | refine AW.cond ?_ | refine AW.skip ?_ | refine AW.ret ?_ | refine AW.exit ?_); conv => whnf) | ((first | refine And.intro (@rfl Val _) ?_ | refine And.intro (by decide) ?_ | refine cs (fun _ => ?_) (fun _ => ?_)) <;> conv => whnf)
      have hm := List.mem_of_getElem? ht
      rw [wrap64 (by omega) (by omega), show (left : Int) - 1 = ((left - 1 : Nat) : Int) by omega]
      refine (ih _ hm (by have := nodes_mem ks _ hm; omega) _ (by omega)).mono ?_
      rintro _ _ ⟨rfl, rfl⟩
      conv => whnf
      repeat' first | refine AW.seq ?_ | refine AW.block ?_ | ((first | refine AW.region tab_ok ?_ | refine AW.cond ?_ | refine AW.skip ?_ | refine AW.ret ?_ | refine AW.exit ?_); conv => whnf) | ((first | refine And.intro (@rfl Val _) ?_ | refine And.intro (by decide) ?_ | refine cs (fun _ => ?_) (fun _ => ?_)) <;> conv => whnf)
      rw [wrap64 (x := (i : Int) + 1) (by omega) (by omega), show max (deepL (List.take i ks) (left - 1) : Int) (deepF (Ty.node k' ks') (left - 1) : Int) = (deepL (List.take (i + 1) ks) (left - 1) : Nat) by rw [deepL_take _ ks i _ ht]; omega]
      exact ⟨⟨i + 1, hlt⟩, ⟨⟨rfl, rfl, rfl, rfl, trivial⟩, rfl, rfl, ⟨[], rfl⟩, rfl⟩, show ks.length - (i + 1) < ks.length - i by omega⟩
    · rename_i h1
      simp only [rows_length] at h1
      have := of_decide_eq_false h1
      obtain rfl : i = ks.length := by omega
      simp only [List.take_length]
      refine ⟨?_, rfl⟩
      have := deepL_le ks (left - 1)
      simp only [oneOf, deepF]
      rw [if_neg (by omega), wrap64 (by omega) (by omega)]
      rw [show min (1 + (deepL ks (left - 1) : Int)) (left : Int) = (deepL ks (left - 1) + 1 : Nat) by omega]
set_option maxRecDepth 10000 in
theorem rcount_call (t : Ty) : ∀ n : Nat, n ≤ 8192 → ACall Tryz.prog 149 [t.val, .c (.d (.int .i64 n))] [] (fun o σ => o = .ret (.c (.d (.int .i64 (min (n + nodes t) 8193 : Nat)))) ∧ σ = []) := by
  induction t using Ty.ind with
  | _ k ks ih =>
  intro n hn
  refine ACall.body tab_ok (ρ := 0) (N := 27) Tryz.func149 rfl rfl rfl rfl rfl ?_
  repeat' first | refine AW.seq ?_ | refine AW.block ?_ | ((first | refine AW.region tab_ok ?_ | refine AW.cond ?_ | refine AW.skip ?_ | refine AW.ret ?_ | refine AW.exit ?_); conv => whnf) | ((first | refine And.intro (@rfl Val _) ?_ | refine And.intro (by decide) ?_ | refine cs (fun _ => ?_) (fun _ => ?_)) <;> conv => whnf)
  refine AW.loop (ι := UpTo ks) (fun x => ⟨27, [(5, .c (.d (.int .i64 x.i))), (1, .c (.d (.int .i64 (min (n + 1 + nodesL (ks.take x.i)) 8193 : Nat)))), (2, .c (.ptr 0 0))],
      [.var [.d (.int .i8 k), .d (.sl 0 2 (Ty.rows ks))]], []⟩)
      (fun x => ks.length - x.i) ⟨0, Nat.zero_le _⟩ 1 (fun _ => rfl) (Nat.le_of_ble_eq_true rfl) ⟨⟨rfl, ?_, rfl, trivial⟩, rfl, rfl, ⟨[], rfl⟩, rfl⟩ (fun x => ?_)
  · show Val.c (.d (.int .i64 (IntKind.i64.wrap _))) = _
    rw [wrap64 (by omega) (by omega), List.take_zero, show nodesL [] = 0 by simp [nodesL], Nat.min_eq_left (by omega)]
    rfl
  obtain ⟨i, hi⟩ := x
  repeat' first | refine AW.seq ?_ | refine AW.block ?_ | ((first | refine AW.region tab_ok ?_ | refine AW.cond ?_ | refine AW.skip ?_ | refine AW.ret ?_ | refine AW.exit ?_); conv => whnf) | ((first | refine And.intro (@rfl Val _) ?_ | refine And.intro (by decide) ?_ | refine cs (fun _ => ?_) (fun _ => ?_)) <;> conv => whnf)
  · rename_i h1 h2
    simp only [rows_length] at h1 ⊢
    have := of_decide_eq_true h1
    refine ⟨by omega, fun row hrow => ?_⟩
    obtain ⟨⟨k', ks'⟩, ht, rfl⟩ := rows_get ks i row (by simpa using hrow)
    have hlt : i < ks.length := (List.getElem?_eq_some_iff.1 ht).1
    conv => whnf
    repeat' first | refine AW.seq ?_ | refine AW.block ?_ | ((first | refine AW.region tab_ok ?_ | refine AW.cond ?_ | refine AW.skip ?_ | refine AW.ret ?_ | refine AW.exit ?_); conv => whnf) | ((first | refine And.intro (@rfl Val _) ?_ | refine And.intro (by decide) ?_ | refine cs (fun _ => ?_) (fun _ => ?_)) <;> conv => whnf)
    have hm := List.mem_of_getElem? ht
    have h2 : decide ((min (n + 1 + nodesL (List.take i ks)) 8193 : Nat) ≤ (8192 : Int)) = true := h2
    have h2 := of_decide_eq_true h2
    have hnt := nodesL_take ks i _ ht
    have htl := nodesL_len (ks.take i)
    simp only [List.length_take] at htl
    rw [Nat.min_eq_left (by omega)]
    refine (ih _ hm _ (by omega)).mono ?_
    rintro _ _ ⟨rfl, rfl⟩
    conv => whnf
    repeat' first | refine AW.seq ?_ | refine AW.block ?_ | ((first | refine AW.region tab_ok ?_ | refine AW.cond ?_ | refine AW.skip ?_ | refine AW.ret ?_ | refine AW.exit ?_); conv => whnf) | ((first | refine And.intro (@rfl Val _) ?_ | refine And.intro (by decide) ?_ | refine cs (fun _ => ?_) (fun _ => ?_)) <;> conv => whnf)
    rw [wrap64 (x := (i : Int) + 1) (by omega) (by omega), show n + 1 + nodesL (List.take i ks) + nodes (Ty.node k' ks') = n + 1 + nodesL (List.take (i + 1) ks) by omega]
    exact ⟨⟨i + 1, hlt⟩, ⟨⟨rfl, rfl, rfl, trivial⟩, rfl, rfl, ⟨[], rfl⟩, rfl⟩, show ks.length - (i + 1) < ks.length - i by omega⟩
  · rename_i h1 h2
    have h2 : decide ((min (n + 1 + nodesL (List.take i ks)) 8193 : Nat) ≤ (8192 : Int)) = false := h2
    have h2 := of_decide_eq_false h2
    have := nodesL_le ks i
    refine ⟨?_, rfl⟩
    simp only [oneOf, nodes]
    rw [Nat.min_eq_right (by omega), Nat.min_eq_right (by omega)]
  · rename_i h1
    simp only [rows_length] at h1
    have := of_decide_eq_false h1
    obtain rfl : i = ks.length := by omega
    simp only [List.take_length]
    refine ⟨?_, rfl⟩
    simp only [oneOf, nodes]
    rw [show n + 1 + nodesL ks = n + (nodesL ks + 1) by omega]
end Go.Proofs.YtmaokphbfjpodaaGreatDoor.E

/- Walks: right, Depth, Check, of both; less of both. No conditions. -/
set_option linter.unusedVariables false
set_option linter.unusedSimpArgs false
namespace Go.Proofs.YtmaokphbfjpodaaGreatDoor.E
open Go

/-! ### right -/
structure RightI (ks : List Ty) where
  i : Nat
  hi : i ≤ ks.length
  h : ∀ j, j < i → ∀ t, ks[j]? = some t → tright t = true

set_option maxRecDepth 10000 in
theorem right_call (t : Ty) : nodes t ≤ 8192 → ACall Tryz.prog 106 [t.val] [] (fun o σ => o = .ret (.c (.d (.bool (tright t)))) ∧ σ = []) := by
  induction t using Ty.ind with
  | _ k ks ih =>
  intro hN
  have hlen := nodesL_len ks
  simp only [nodes] at hN
  refine ACall.body tab_ok (ρ := 0) (N := 23) Tryz.func106 rfl rfl rfl rfl rfl ?_
  repeat' first | refine AW.seq ?_ | refine AW.block ?_ | (refine (_root_.id : AW _ _ _ (.region 1 _ true) _ _ → _) ?_; refine AW.draw (id := 1) tab_ok mixed [0, 1, 3, 4, 5, 2, 6] (by kernel_rfl) ?_; conv => whnf) | ((first | refine AW.region tab_ok ?_ | refine AW.cond ?_ | refine AW.skip ?_ | refine AW.ret ?_ | refine AW.exit ?_); conv => whnf) | (refine (parts_call _).mono ?_; rintro _ _ ⟨rfl, rfl⟩; conv => whnf) | ((first | refine And.intro (@rfl Val _) ?_ | refine And.intro (by decide) ?_ | refine cs (fun _ => ?_) (fun _ => ?_)) <;> conv => whnf)
  · rename_i h
    refine ⟨?_, rfl⟩
    simp only [rows_length, bne_iff_ne, ne_eq] at h
    simp [oneOf, tright, h]
  · rename_i h
    refine AW.loop (ι := RightI ks) (fun x => ⟨23, [(15, .c (.d (.int .i64 x.i))), (14, .c (.d (.int .i64 (Ty.rows ks).length))), (13, .c (.d (.sl 0 2 (Ty.rows ks))))], [.var [.d (.int .i8 k), .d (.sl 0 2 (Ty.rows ks))]], []⟩)
      (fun x => ks.length - x.i) ⟨0, Nat.zero_le _, fun j h => by omega⟩ 1 (fun _ => rfl) (Nat.le_of_ble_eq_true rfl) ⟨⟨rfl, rfl, rfl, trivial⟩, rfl, rfl, ⟨[], rfl⟩, rfl⟩ (fun x => ?_)
    obtain ⟨i, hi, hj⟩ := x
    repeat' first | refine AW.seq ?_ | refine AW.block ?_ | (refine (_root_.id : AW _ _ _ (.region 1 _ true) _ _ → _) ?_; refine AW.draw (id := 1) tab_ok mixed [0, 1, 3, 4, 5, 2, 6] (by kernel_rfl) ?_; conv => whnf) | ((first | refine AW.region tab_ok ?_ | refine AW.cond ?_ | refine AW.skip ?_ | refine AW.ret ?_ | refine AW.exit ?_); conv => whnf) | ((first | refine And.intro (@rfl Val _) ?_ | refine And.intro (by decide) ?_ | refine cs (fun _ => ?_) (fun _ => ?_)) <;> conv => whnf)
    · rename_i h1
      simp only [rows_length] at h1 ⊢
      have := of_decide_eq_true h1
      refine ⟨by omega, fun row hrow => ?_⟩
      obtain ⟨⟨k', ks'⟩, ht, rfl⟩ := rows_get ks i row (by simpa using hrow)
      have hlt : i < ks.length := (List.getElem?_eq_some_iff.1 ht).1
      have hm := List.mem_of_getElem? ht
      conv => whnf
      repeat' first | refine AW.seq ?_ | refine AW.block ?_ | (refine (_root_.id : AW _ _ _ (.region 1 _ true) _ _ → _) ?_; refine AW.draw (id := 1) tab_ok mixed [0, 1, 3, 4, 5, 2, 6] (by kernel_rfl) ?_; conv => whnf) | ((first | refine AW.region tab_ok ?_ | refine AW.cond ?_ | refine AW.skip ?_ | refine AW.ret ?_ | refine AW.exit ?_); conv => whnf) | (refine (ih _ hm (by have := nodes_mem ks _ hm; omega)).mono ?_; rintro _ _ ⟨rfl, rfl⟩; conv => whnf) | ((first | refine And.intro (@rfl Val _) ?_ | refine And.intro (by decide) ?_ | refine cs (fun _ => ?_) (fun _ => ?_)) <;> conv => whnf)
      · rename_i h2
        refine ⟨?_, rfl⟩
        have h2 : tright (Ty.node k' ks') = false := by simpa using h2
        have : trights ks = false := by
          cases hc : trights ks with
          | false => rfl
          | true => rw [(trights_all ks).1 hc _ hm] at h2; cases h2
        simp [oneOf, tright, this]
      · rename_i h2
        have h2 : tright (Ty.node k' ks') = true := by simpa using h2
        rw [wrap64 (x := (i : Int) + 1) (by omega) (by omega)]
        refine ⟨⟨i + 1, hlt, fun j h t hjt => ?_⟩, ⟨⟨rfl, rfl, rfl, trivial⟩, rfl, rfl, ⟨[_], rfl⟩, rfl⟩, show ks.length - (i + 1) < ks.length - i by omega⟩
        by_cases e : j = i
        · subst e; rw [ht] at hjt; cases hjt; exact h2
        · exact hj j (by omega) t hjt
    · rename_i h1
      simp only [rows_length] at h1
      have := of_decide_eq_false h1
      obtain rfl : i = ks.length := by omega
      refine ⟨?_, rfl⟩
      have hp : parts k = ks.length := by simpa [rows_length] using h
      have : trights ks = true := (trights_all ks).2 fun t ht => by
        obtain ⟨j, hj1, hj2⟩ := List.getElem_of_mem ht
        exact hj j hj1 t (by rw [List.getElem?_eq_getElem hj1, hj2])
      simp [oneOf, tright, this, hp]
set_option maxRecDepth 10000 in
theorem rright_call (t : Ty) : nodes t ≤ 8192 → ACall Tryz.prog 146 [t.val] [] (fun o σ => o = .ret (.c (.d (.bool (tright t)))) ∧ σ = []) := by
  induction t using Ty.ind with
  | _ k ks ih =>
  intro hN
  have hlen := nodesL_len ks
  simp only [nodes] at hN
  refine ACall.body tab_ok (ρ := 0) (N := 27) Tryz.func146 rfl rfl rfl rfl rfl ?_
  repeat' first | refine AW.seq ?_ | refine AW.block ?_ | (refine (_root_.id : AW _ _ _ (.region 1 _ true) _ _ → _) ?_; refine AW.draw (id := 1) tab_ok mixed [0, 1, 3, 4, 5, 2, 6] (by kernel_rfl) ?_; conv => whnf) | ((first | refine AW.region tab_ok ?_ | refine AW.cond ?_ | refine AW.skip ?_ | refine AW.ret ?_ | refine AW.exit ?_); conv => whnf) | (refine (kids_call _).mono ?_; rintro _ _ ⟨rfl, rfl⟩; conv => whnf) | ((first | refine And.intro (@rfl Val _) ?_ | refine And.intro (by decide) ?_ | refine cs (fun _ => ?_) (fun _ => ?_)) <;> conv => whnf)
  · rename_i h
    refine ⟨?_, rfl⟩
    simp only [rows_length, bne_iff_ne, ne_eq] at h
    simp [oneOf, tright, h]
  · rename_i h
    refine AW.loop (ι := RightI ks) (fun x => ⟨27, [(3, .c (.d (.int .i64 x.i))), (1, .c (.ptr 0 0))], [.var [.d (.int .i8 k), .d (.sl 0 2 (Ty.rows ks))]], []⟩)
      (fun x => ks.length - x.i) ⟨0, Nat.zero_le _, fun j h => by omega⟩ 1 (fun _ => rfl) (Nat.le_of_ble_eq_true rfl) ⟨⟨rfl, rfl, trivial⟩, rfl, rfl, ⟨[], rfl⟩, rfl⟩ (fun x => ?_)
    obtain ⟨i, hi, hj⟩ := x
    repeat' first | refine AW.seq ?_ | refine AW.block ?_ | (refine (_root_.id : AW _ _ _ (.region 1 _ true) _ _ → _) ?_; refine AW.draw (id := 1) tab_ok mixed [0, 1, 3, 4, 5, 2, 6] (by kernel_rfl) ?_; conv => whnf) | ((first | refine AW.region tab_ok ?_ | refine AW.cond ?_ | refine AW.skip ?_ | refine AW.ret ?_ | refine AW.exit ?_); conv => whnf) | ((first | refine And.intro (@rfl Val _) ?_ | refine And.intro (by decide) ?_ | refine cs (fun _ => ?_) (fun _ => ?_)) <;> conv => whnf)
    · rename_i h1
      simp only [rows_length] at h1 ⊢
      have := of_decide_eq_true h1
      refine ⟨by omega, fun row hrow => ?_⟩
      obtain ⟨⟨k', ks'⟩, ht, rfl⟩ := rows_get ks i row (by simpa using hrow)
      have hlt : i < ks.length := (List.getElem?_eq_some_iff.1 ht).1
      have hm := List.mem_of_getElem? ht
      conv => whnf
      repeat' first | refine AW.seq ?_ | refine AW.block ?_ | (refine (_root_.id : AW _ _ _ (.region 1 _ true) _ _ → _) ?_; refine AW.draw (id := 1) tab_ok mixed [0, 1, 3, 4, 5, 2, 6] (by kernel_rfl) ?_; conv => whnf) | ((first | refine AW.region tab_ok ?_ | refine AW.cond ?_ | refine AW.skip ?_ | refine AW.ret ?_ | refine AW.exit ?_); conv => whnf) | (refine (ih _ hm (by have := nodes_mem ks _ hm; omega)).mono ?_; rintro _ _ ⟨rfl, rfl⟩; conv => whnf) | ((first | refine And.intro (@rfl Val _) ?_ | refine And.intro (by decide) ?_ | refine cs (fun _ => ?_) (fun _ => ?_)) <;> conv => whnf)
      · rename_i h2
        refine ⟨?_, rfl⟩
        have h2 : tright (Ty.node k' ks') = false := by simpa using h2
        have : trights ks = false := by
          cases hc : trights ks with
          | false => rfl
          | true => rw [(trights_all ks).1 hc _ hm] at h2; cases h2
        simp [oneOf, tright, this]
      · rename_i h2
        have h2 : tright (Ty.node k' ks') = true := by simpa using h2
        rw [wrap64 (x := (i : Int) + 1) (by omega) (by omega)]
        refine ⟨⟨i + 1, hlt, fun j h t hjt => ?_⟩, ⟨⟨rfl, rfl, trivial⟩, rfl, rfl, ⟨[], rfl⟩, rfl⟩, show ks.length - (i + 1) < ks.length - i by omega⟩
        by_cases e : j = i
        · subst e; rw [ht] at hjt; cases hjt; exact h2
        · exact hj j (by omega) t hjt
    · rename_i h1
      simp only [rows_length] at h1
      have := of_decide_eq_false h1
      obtain rfl : i = ks.length := by omega
      refine ⟨?_, rfl⟩
      have hp : parts k = ks.length := by simpa [rows_length] using h
      have : trights ks = true := (trights_all ks).2 fun t ht => by
        obtain ⟨j, hj1, hj2⟩ := List.getElem_of_mem ht
        exact hj j hj1 t (by rw [List.getElem?_eq_getElem hj1, hj2])
      simp [oneOf, tright, this, hp]

/-! ### Nodes, Depth, Check -/
set_option maxRecDepth 10000 in
theorem rnodes_call (t : Ty) : ACall Tryz.prog 124 [t.val] [] (fun o σ => o = .ret (.c (.d (.int .i64 (min (nodes t) 8193 : Nat)))) ∧ σ = []) := by
  obtain ⟨k, ks⟩ := t
  refine ACall.body tab_ok (ρ := 0) (N := 6) Tryz.func124 rfl rfl rfl rfl rfl ?_
  repeat' first | refine AW.seq ?_ | refine AW.block ?_ | ((first | refine AW.region tab_ok ?_ | refine AW.cond ?_ | refine AW.skip ?_ | refine AW.ret ?_ | refine AW.exit ?_); conv => whnf) | (refine (rcount_call (.node k ks) 0 (by omega)).mono ?_; rintro _ _ ⟨rfl, rfl⟩; conv => whnf) | ((first | refine And.intro (@rfl Val _) ?_ | refine And.intro (by decide) ?_ | refine cs (fun _ => ?_) (fun _ => ?_)) <;> conv => whnf)
  refine ⟨?_, rfl⟩
  simp only [oneOf, Nat.zero_add]
  rw [show min ((min (nodes (Ty.node k ks)) 8193 : Nat) : Int) 8193 = (min (nodes (Ty.node k ks)) 8193 : Nat) by omega]
def tdepth (t : Ty) : Nat := if nodes t > 8192 then 201 else deepF t 201
set_option maxRecDepth 10000 in
theorem depth_call (t : Ty) : ACall Tryz.prog 105 [t.val] [] (fun o σ => o = .ret (.c (.d (.int .i64 (tdepth t)))) ∧ σ = []) := by
  obtain ⟨k, ks⟩ := t
  refine ACall.body tab_ok (ρ := 0) (N := 8) Tryz.func105 rfl rfl rfl rfl rfl ?_
  repeat' first | refine AW.seq ?_ | refine AW.block ?_ | ((first | refine AW.region tab_ok ?_ | refine AW.cond ?_ | refine AW.skip ?_ | refine AW.ret ?_ | refine AW.exit ?_); conv => whnf) | (refine (nodes_call (.node k ks)).mono ?_; rintro _ _ ⟨rfl, rfl⟩; conv => whnf) | ((first | refine And.intro (@rfl Val _) ?_ | refine And.intro (by decide) ?_ | refine cs (fun _ => ?_) (fun _ => ?_)) <;> conv => whnf)
  · rename_i h
    have := of_decide_eq_true h
    refine ⟨?_, rfl⟩
    simp only [oneOf, tdepth]
    rw [if_pos (by omega)]
    rfl
  · rename_i h
    have := of_decide_eq_false h
    refine (deep_call (.node k ks) (by omega) 201 (by omega)).mono ?_
    rintro _ _ ⟨rfl, rfl⟩
    conv => whnf
    repeat' first | refine AW.seq ?_ | refine AW.block ?_ | ((first | refine AW.region tab_ok ?_ | refine AW.cond ?_ | refine AW.skip ?_ | refine AW.ret ?_ | refine AW.exit ?_); conv => whnf) | ((first | refine And.intro (@rfl Val _) ?_ | refine And.intro (by decide) ?_ | refine cs (fun _ => ?_) (fun _ => ?_)) <;> conv => whnf)
    refine ⟨?_, rfl⟩
    simp only [oneOf, tdepth]
    rw [if_neg (by omega)]
set_option maxRecDepth 10000 in
theorem rdepth_call (t : Ty) : ACall Tryz.prog 126 [t.val] [] (fun o σ => o = .ret (.c (.d (.int .i64 (tdepth t)))) ∧ σ = []) := by
  obtain ⟨k, ks⟩ := t
  refine ACall.body tab_ok (ρ := 0) (N := 8) Tryz.func126 rfl rfl rfl rfl rfl ?_
  repeat' first | refine AW.seq ?_ | refine AW.block ?_ | ((first | refine AW.region tab_ok ?_ | refine AW.cond ?_ | refine AW.skip ?_ | refine AW.ret ?_ | refine AW.exit ?_); conv => whnf) | (refine (rnodes_call (.node k ks)).mono ?_; rintro _ _ ⟨rfl, rfl⟩; conv => whnf) | ((first | refine And.intro (@rfl Val _) ?_ | refine And.intro (by decide) ?_ | refine cs (fun _ => ?_) (fun _ => ?_)) <;> conv => whnf)
  · rename_i h
    have := of_decide_eq_true h
    refine ⟨?_, rfl⟩
    simp only [oneOf, tdepth]
    rw [if_pos (by omega)]
    rfl
  · rename_i h
    have := of_decide_eq_false h
    refine (rdeep_call (.node k ks) (by omega) 201 (by omega)).mono ?_
    rintro _ _ ⟨rfl, rfl⟩
    conv => whnf
    repeat' first | refine AW.seq ?_ | refine AW.block ?_ | ((first | refine AW.region tab_ok ?_ | refine AW.cond ?_ | refine AW.skip ?_ | refine AW.ret ?_ | refine AW.exit ?_); conv => whnf) | ((first | refine And.intro (@rfl Val _) ?_ | refine And.intro (by decide) ?_ | refine cs (fun _ => ?_) (fun _ => ?_)) <;> conv => whnf)
    refine ⟨?_, rfl⟩
    simp only [oneOf, tdepth]
    rw [if_neg (by omega)]
set_option maxRecDepth 10000 in
theorem check_call (t : Ty) : ACall Tryz.prog 54 [t.val] [] (fun o σ => o = .ret (.c (.d (.int .i64 (tcheck t)))) ∧ σ = []) := by
  obtain ⟨k, ks⟩ := t
  refine ACall.body tab_ok (ρ := 0) (N := 15) Tryz.func54 rfl rfl rfl rfl rfl ?_
  repeat' first | refine AW.seq ?_ | refine AW.block ?_ | ((first | refine AW.region tab_ok ?_ | refine AW.cond ?_ | refine AW.skip ?_ | refine AW.ret ?_ | refine AW.exit ?_); conv => whnf) | ((first | refine (nodes_call (.node k ks)).mono ?_ | refine (depth_call (.node k ks)).mono ?_); rintro _ _ ⟨rfl, rfl⟩; conv => whnf) | ((first | refine And.intro (@rfl Val _) ?_ | refine And.intro (by decide) ?_ | refine cs (fun _ => ?_) (fun _ => ?_)) <;> conv => whnf)
  · rename_i h
    have := of_decide_eq_true h
    refine ⟨?_, rfl⟩
    simp only [oneOf, tcheck]
    rw [if_pos (by omega)]
  · rename_i h1 h2
    have := of_decide_eq_false h1
    have h2 := of_decide_eq_true h2
    refine ⟨?_, rfl⟩
    simp only [tdepth] at h2
    rw [if_neg (by omega)] at h2
    simp only [oneOf, tcheck]
    rw [if_neg (by omega), if_pos (by omega)]
  · rename_i h1 h2
    have := of_decide_eq_false h1
    have h2 := of_decide_eq_false h2
    simp only [tdepth] at h2
    rw [if_neg (by omega)] at h2
    refine (right_call (.node k ks) (by omega)).mono ?_
    rintro _ _ ⟨rfl, rfl⟩
    conv => whnf
    repeat' first | refine AW.seq ?_ | refine AW.block ?_ | ((first | refine AW.region tab_ok ?_ | refine AW.cond ?_ | refine AW.skip ?_ | refine AW.ret ?_ | refine AW.exit ?_); conv => whnf) | ((first | refine And.intro (@rfl Val _) ?_ | refine And.intro (by decide) ?_ | refine cs (fun _ => ?_) (fun _ => ?_)) <;> conv => whnf)
    all_goals
      rename_i h3
      refine ⟨?_, rfl⟩
      simp only [oneOf, tcheck]
      rw [if_neg (by omega), if_neg (by omega)]
      simp at h3
      simp [h3]
set_option maxRecDepth 10000 in
theorem rcheck_call (t : Ty) : ACall Tryz.prog 121 [t.val] [] (fun o σ => o = .ret (.c (.d (.int .i64 (tcheck t)))) ∧ σ = []) := by
  obtain ⟨k, ks⟩ := t
  refine ACall.body tab_ok (ρ := 0) (N := 14) Tryz.func121 rfl rfl rfl rfl rfl ?_
  repeat' first | refine AW.seq ?_ | refine AW.block ?_ | ((first | refine AW.region tab_ok ?_ | refine AW.cond ?_ | refine AW.skip ?_ | refine AW.ret ?_ | refine AW.exit ?_); conv => whnf) | ((first | refine (rnodes_call (.node k ks)).mono ?_ | refine (rdepth_call (.node k ks)).mono ?_); rintro _ _ ⟨rfl, rfl⟩; conv => whnf) | ((first | refine And.intro (@rfl Val _) ?_ | refine And.intro (by decide) ?_ | refine cs (fun _ => ?_) (fun _ => ?_)) <;> conv => whnf)
  · rename_i h
    have := of_decide_eq_true h
    refine ⟨?_, rfl⟩
    simp only [oneOf, tcheck]
    rw [if_pos (by omega)]
  · rename_i h1 h2
    have := of_decide_eq_false h1
    have h2 := of_decide_eq_true h2
    refine ⟨?_, rfl⟩
    simp only [tdepth] at h2
    rw [if_neg (by omega)] at h2
    simp only [oneOf, tcheck]
    rw [if_neg (by omega), if_pos (by omega)]
  · rename_i h1 h2
    have := of_decide_eq_false h1
    have h2 := of_decide_eq_false h2
    simp only [tdepth] at h2
    rw [if_neg (by omega)] at h2
    refine (rright_call (.node k ks) (by omega)).mono ?_
    rintro _ _ ⟨rfl, rfl⟩
    conv => whnf
    repeat' first | refine AW.seq ?_ | refine AW.block ?_ | ((first | refine AW.region tab_ok ?_ | refine AW.cond ?_ | refine AW.skip ?_ | refine AW.ret ?_ | refine AW.exit ?_); conv => whnf) | ((first | refine And.intro (@rfl Val _) ?_ | refine And.intro (by decide) ?_ | refine cs (fun _ => ?_) (fun _ => ?_)) <;> conv => whnf)
    all_goals
      rename_i h3
      refine ⟨?_, rfl⟩
      simp only [oneOf, tcheck]
      rw [if_neg (by omega), if_neg (by omega)]
      simp at h3
      simp [h3]
end Go.Proofs.YtmaokphbfjpodaaGreatDoor.E
