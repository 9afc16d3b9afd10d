/- Types as trees; what the program's functions over types compute. No conditions. -/
import Derived.Test.YthmbncehoblgpaaGreatDoorTab
set_option linter.unusedVariables false
set_option linter.unusedSimpArgs false
namespace Go.Proofs.YthmbncehoblgpaaGreatDoor.E
open Go

theorem cs {b : Bool} {X Y : Prop} (h1 : b = true → X) (h2 : b = false → Y) : cond b X Y := by
  cases b
  · exact h2 rfl
  · exact h1 rfl

theorem wrap64 {x : Int} (h1 : -9223372036854775808 ≤ x) (h2 : x ≤ 9223372036854775807) : IntKind.i64.wrap x = x := by
  unfold IntKind.wrap
  simp only [IntKind.bits, IntKind.signed, show ((2 : Int) ^ 64) = 18446744073709551616 from rfl, show ((2 : Int) ^ (64 - 1)) = 9223372036854775808 from rfl, Bool.true_and, decide_eq_true_eq]
  split <;> omega

inductive Ty where
  | node (k : Int) (kids : List Ty)
mutual
def Ty.cells : Ty → List DV
  | .node k ks => [.int .i8 k, .sl 0 2 (Ty.rows ks)]
def Ty.rows : List Ty → List (List DV)
  | [] => []
  | t :: l => Ty.cells t :: Ty.rows l
end
/-- A type, as a value. -/
def Ty.val (t : Ty) : Val := .agg (t.cells.map .d)

theorem rows_length : ∀ ks, (Ty.rows ks).length = ks.length
  | [] => rfl
  | _ :: l => by simp [Ty.rows, rows_length l]
theorem rows_get : ∀ (ks : List Ty) (i : Nat) row, (Ty.rows ks)[i]? = some row → ∃ t, ks[i]? = some t ∧ row = Ty.cells t
  | [], i, row, h => by simp [Ty.rows] at h
  | t :: l, 0, row, h => by simp [Ty.rows] at h; exact ⟨t, rfl, h.symm⟩
  | t :: l, i + 1, row, h => by simp only [Ty.rows, List.getElem?_cons_succ] at h ⊢; exact rows_get l i row h

mutual
def nodes : Ty → Nat
  | .node _ ks => nodesL ks + 1
def nodesL : List Ty → Nat
  | [] => 0
  | t :: l => nodes t + nodesL l
end
theorem nodesL_take : ∀ (ks : List Ty) (i : Nat) t, ks[i]? = some t → nodesL (ks.take (i + 1)) = nodesL (ks.take i) + nodes t
  | x :: l, 0, t, h => by simp at h; subst h; simp [nodesL]
  | x :: l, i + 1, t, h => by
    simp only [List.getElem?_cons_succ] at h
    have := nodesL_take l i t h
    simp only [List.take_succ_cons, nodesL, this]
    omega
theorem nodesL_le : ∀ (ks : List Ty) (i : Nat), nodesL (ks.take i) ≤ nodesL ks
  | [], i => by simp
  | x :: l, 0 => by simp [nodesL]
  | x :: l, i + 1 => by
    have := nodesL_le l i
    simp only [List.take_succ_cons, nodesL]
    omega
theorem nodes_pos (t : Ty) : 0 < nodes t := by cases t; simp [nodes]
theorem nodesL_len : ∀ (ks : List Ty), ks.length ≤ nodesL ks
  | [] => by simp [nodesL]
  | x :: l => by
    have := nodesL_len l
    have := nodes_pos x
    simp only [List.length_cons, nodesL]
    omega
theorem nodes_mem : ∀ (ks : List Ty) (t : Ty), t ∈ ks → nodes t ≤ nodesL ks
  | x :: l, t, h => by
    simp only [nodesL]
    rcases List.mem_cons.1 h with rfl | h
    · omega
    · have := nodes_mem l t h; omega
theorem Ty.ind {Q : Ty → Prop} (h : ∀ k ks, (∀ t ∈ ks, Q t) → Q (.node k ks)) : ∀ t, Q t := by
  intro t
  have : ∀ n t, nodes t ≤ n → Q t := by
    intro n
    induction n with
    | zero => intro t ht; have := nodes_pos t; omega
    | succ n ih =>
      rintro ⟨k, ks⟩ ht
      refine h k ks fun t hm => ih t ?_
      have := nodes_mem ks t hm
      simp only [nodes] at ht
      omega
  exact this _ t (Nat.le_refl _)

def parts (k : Int) : Int := if k = 0 ∨ k = 1 ∨ k = 2 then 0 else if k = 3 ∨ k = 4 ∨ k = 5 then 2 else -1
mutual
def tright : Ty → Bool
  | .node k ks => decide (parts k = ks.length) && trights ks
def trights : List Ty → Bool
  | [] => true
  | t :: l => tright t && trights l
end
theorem trights_all : ∀ (ks : List Ty), trights ks = true ↔ ∀ t ∈ ks, tright t = true
  | [] => by simp [trights]
  | t :: l => by simp [trights, trights_all l]
mutual
def deepF : Ty → Nat → Nat
  | .node _ ks, left => if left ≤ 1 then left else deepL ks (left - 1) + 1
def deepL : List Ty → Nat → Nat
  | [], _ => 0
  | t :: l, left => max (deepF t left) (deepL l left)
end
def tcheck (t : Ty) : Int := if nodes t > 8192 then 32 else if deepF t 201 > 200 then 31 else if tright t then 0 else 20

/-! ### parts, Kids -/
set_option maxRecDepth 10000 in
theorem parts_call (k : Int) : ACall Tryz.prog 83 [.c (.d (.int .i8 k))] [] (fun o σ => o = .ret (.c (.d (.int .i64 (parts k)))) ∧ σ = []) := by
  refine ACall.body tab_ok (ρ := 0) (N := 12) Tryz.func83 rfl rfl rfl rfl rfl ?_
  repeat' first | refine AW.seq ?_ | refine AW.block ?_ | ((first | refine AW.region tab_ok ?_ | refine AW.cond ?_ | refine AW.skip ?_ | refine AW.ret ?_ | refine AW.exit ?_); conv => whnf) | ((first | refine And.intro (@rfl Val _) ?_ | refine And.intro (by decide) ?_ | refine cs (fun _ => ?_) (fun _ => ?_)) <;> conv => whnf)
  all_goals (refine ⟨?_, rfl⟩; simp_all [oneOf, parts])
set_option maxRecDepth 10000 in
theorem kids_call (k : Int) : ACall Tryz.prog 89 [.c (.d (.int .i8 k))] [] (fun o σ => o = .ret (.c (.d (.int .i64 (parts k)))) ∧ σ = []) := by
  refine ACall.body tab_ok (ρ := 0) (N := 12) Tryz.func89 rfl rfl rfl rfl rfl ?_
  repeat' first | refine AW.seq ?_ | refine AW.block ?_ | ((first | refine AW.region tab_ok ?_ | refine AW.cond ?_ | refine AW.skip ?_ | refine AW.ret ?_ | refine AW.exit ?_); conv => whnf) | ((first | refine And.intro (@rfl Val _) ?_ | refine And.intro (by decide) ?_ | refine cs (fun _ => ?_) (fun _ => ?_)) <;> conv => whnf)
  all_goals (refine ⟨?_, rfl⟩; simp_all [oneOf, parts])
end Go.Proofs.YthmbncehoblgpaaGreatDoor.E
