/- ProofGreat: the law. No conditions. -/
import Derived.Test.YtoglfnjankinnaaPg2
set_option linter.unusedVariables false
set_option linter.unusedSimpArgs false
namespace Go.Proofs.Ytoglfnjankinnaa.E
open Go

set_option maxRecDepth 10000 in
theorem POf_call (k : Int) (a b : Ty) : ACall Try.prog 14 [.c (.d (.int .i8 k)), a.val, b.val] [] (fun o σ => o = .ret (Ty.node k [a, b]).val ∧ σ = []) := by
  obtain ⟨k1, s1⟩ := a
  obtain ⟨k2, s2⟩ := b
  refine ACall.body tab_ok (ρ := 0) (N := 12) Try.func14 rfl rfl rfl rfl rfl ?_
  repeat' first
    | refine AW.seq ?_
    | refine AW.block ?_
    | (refine AW.region tab_ok ?_; conv => whnf)
    | (refine AW.cond ?_; conv => whnf)
    | (refine AW.skip ?_; conv => whnf)
    | (refine AW.ret ?_; conv => whnf)
    | (refine AW.exit ?_; conv => whnf)
    | (refine And.intro (@rfl Val _) ?_; conv => whnf)
    | (refine And.intro (by decide) ?_; conv => whnf)
    | (refine cs (fun _ => ?_) (fun _ => ?_) <;> conv => whnf)
  exact ⟨rfl, rfl⟩
def bigN : Nat → Tm
  | 0 => leafT 1 ⟨#[]⟩ 0
  | i + 1 => .node 9 ⟨#[]⟩ ⟨#[]⟩ 0 0 [] 0 [] 0 0 [bigN i, bigN i]
def bigA : Nat → Ty
  | 0 => .node 1 []
  | i + 1 => .node 4 [bigA i, bigA i]
def bigP : Nat → List DV
  | 0 => [.str ⟨#[78, 117, 109]⟩, .int .i8 1, .sl 0 2 [], .sl 0 4 []]
  | i + 1 => [.str ⟨#[84, 119, 111]⟩, .int .i8 4, .sl 0 2 [(bigA i).cells, (bigA i).cells], .sl 0 4 [bigP i, bigP i]]
theorem bigN_N : ∀ i, tmN (bigN i) + 1 = 2 ^ (i + 1)
  | 0 => by simp [bigN, leafT, tmN, tmNL, typeK, toK]
  | i + 1 => by
    have := bigN_N i
    simp only [bigN, tmN, tmNL, typeK, toK]
    rw [Nat.pow_succ]
    simp
    omega
theorem bigN_check : tmcheck (bigN 50) = 32 := by
  have := bigN_N 50
  simp only [Nat.reducePow, Nat.reduceAdd] at this
  simp only [tmcheck]
  rw [if_pos (by omega)]
structure GrI where
  i : Nat
  hi : i ≤ 50
  k : Int
  q : DV
  r : ByteArray
  ka : Int
  qa : DV
  qp : DV
  h : (i = 0 ∧ k = 1 ∧ q = .nils ∧ r = ⟨#[78, 117, 109]⟩ ∧ ka = 1 ∧ qa = .nils ∧ qp = .nils) ∨
    (∃ j, i = j + 1 ∧ k = 9 ∧ q = .sl 0 11 [(bigN j).cells, (bigN j).cells] ∧ r = ⟨#[84, 119, 111]⟩ ∧ ka = 4 ∧ qa = .sl 0 2 [(bigA j).cells, (bigA j).cells] ∧ qp = .sl 0 4 [bigP j, bigP j])
def grI (j : Nat) (h : j + 1 ≤ 50) : GrI := ⟨j + 1, h, 9, .sl 0 11 [(bigN j).cells, (bigN j).cells], ⟨#[84, 119, 111]⟩, 4, .sl 0 2 [(bigA j).cells, (bigA j).cells], .sl 0 4 [bigP j, bigP j], .inr ⟨j, rfl, rfl, rfl, rfl, rfl, rfl, rfl⟩⟩
set_option maxRecDepth 10000 in
theorem law_ProofGreat : ACall Try.prog 5 [] [] (fun o σ => o = .ret (.c (.d (.bool true))) ∧ σ = []) := by
  have c1 := Find_big (bigN 50) bigN_check
  have c2 := fun r k rows rows' => Proves_big r k rows rows' (bigN 50) bigN_check
  refine ACall.body tab_ok (ρ := 0) (N := 49) Try.func5 rfl rfl rfl rfl rfl ?_
  repeat' first
    | refine AW.seq ?_
    | refine AW.block ?_
    | (refine AW.region tab_ok ?_; conv => whnf)
    | (refine AW.cond ?_; conv => whnf)
    | (refine AW.skip ?_; conv => whnf)
    | (refine AW.ret ?_; conv => whnf)
    | (refine AW.exit ?_; conv => whnf)
    | (refine And.intro (@rfl Val _) ?_; conv => whnf)
    | (refine And.intro (by decide) ?_; conv => whnf)
    | (refine cs (fun _ => ?_) (fun _ => ?_) <;> conv => whnf)
  refine AW.loop (ι := GrI) (fun x => ⟨49, [(4, .c (.d (.int .i64 x.i))), (1, .c (.ptr 0 0)), (2, .c (.ptr 1 0)), (3, .c (.ptr 2 0))],
      [.var [.d (.int .i8 x.k), .d (.str ⟨#[]⟩), .d (.str ⟨#[]⟩), .d (.int .i64 0), .d (.int .i8 0), .d .nils, .d (.int .i8 0), .d .nils, .d (.int .i64 0), .d (.int .i64 0), .d x.q],
       .var [.d (.str x.r), .d (.int .i8 x.ka), .d x.qa, .d x.qp],
       .var [.d (.int .i8 x.ka), .d x.qa]], []⟩)
    (fun x => 50 - x.i) ⟨0, by omega, 1, .nils, ⟨#[78, 117, 109]⟩, 1, .nils, .nils, .inl ⟨rfl, rfl, rfl, rfl, rfl, rfl, rfl⟩⟩ 3 (fun _ => rfl) (Nat.le_of_ble_eq_true rfl) ⟨⟨rfl, rfl, rfl, rfl, trivial⟩, rfl, rfl, ⟨[], rfl⟩, rfl⟩ (fun x => ?_)
  obtain ⟨i, hi, k, q, r, ka, qa, qp, h⟩ := x
  rcases h with ⟨rfl, rfl, rfl, rfl, rfl, rfl, rfl⟩ | ⟨j, rfl, rfl, rfl, rfl, rfl, rfl, rfl⟩
  · skip
    repeat' first
      | refine AW.seq ?_
      | refine AW.block ?_
      | (refine AW.region tab_ok ?_; conv => whnf)
      | (refine AW.cond ?_; conv => whnf)
      | (refine AW.skip ?_; conv => whnf)
      | (refine AW.ret ?_; conv => whnf)
      | (refine AW.exit ?_; conv => whnf)
      | (refine (POf_call 4 (.node 1 []) (.node 1 [])).mono ?_; rintro _ _ ⟨rfl, rfl⟩; conv => whnf)
      | (refine And.intro (@rfl Val _) ?_; conv => whnf)
      | (refine And.intro (by decide) ?_; conv => whnf)
      | (refine cs (fun _ => ?_) (fun _ => ?_) <;> conv => whnf)
    rw [wrap64 (by simp only; omega) (by simp only; omega)]
    exact ⟨grI 0 (by omega), ⟨⟨rfl, rfl, rfl, rfl, trivial⟩, rfl, rfl, ⟨[], rfl⟩, rfl⟩, show 50 - 1 < 50 - 0 by omega⟩
  · have ca := POf_call 4 (.node 4 [bigA j, bigA j]) (.node 4 [bigA j, bigA j])
    repeat' first
      | refine AW.seq ?_
      | refine AW.block ?_
      | (refine AW.region tab_ok ?_; conv => whnf)
      | (refine AW.cond ?_; conv => whnf)
      | (refine AW.skip ?_; conv => whnf)
      | (refine AW.ret ?_; conv => whnf)
      | (refine AW.exit ?_; conv => whnf)
      | (refine (ca).mono ?_; rintro _ _ ⟨rfl, rfl⟩; conv => whnf)
      | (refine And.intro (@rfl Val _) ?_; conv => whnf)
      | (refine And.intro (by decide) ?_; conv => whnf)
      | (refine cs (fun _ => ?_) (fun _ => ?_) <;> conv => whnf)
    · rename_i h1
      have := of_decide_eq_true h1
      simp only at this
      rw [wrap64 (by simp only; omega) (by simp only; omega)]
      exact ⟨grI (j + 1) (by omega), ⟨⟨rfl, rfl, rfl, rfl, trivial⟩, rfl, rfl, ⟨[], rfl⟩, rfl⟩, show 50 - (j + 1 + 1) < 50 - (j + 1) by omega⟩
    · rename_i h1
      have := of_decide_eq_false h1
      simp only at this
      obtain rfl : j = 49 := by omega
      repeat' first
        | refine AW.seq ?_
        | refine AW.block ?_
        | (refine AW.region tab_ok ?_; conv => whnf)
        | (refine AW.cond ?_; conv => whnf)
        | (refine AW.skip ?_; conv => whnf)
        | (refine AW.ret ?_; conv => whnf)
        | (refine AW.exit ?_; conv => whnf)
        | (refine (c1).mono ?_; rintro _ _ ⟨rfl, rfl⟩; conv => whnf)
        | (refine (c2 _ _ _ _).mono ?_; rintro _ _ ⟨rfl, rfl⟩; conv => whnf)
        | (refine (Proves_two _ _ _).mono ?_; rintro _ _ ⟨rfl, rfl⟩; conv => whnf)
        | (refine (wakes10_call).mono ?_; rintro _ _ ⟨rfl, rfl⟩; conv => whnf)
        | (refine And.intro (@rfl Val _) ?_; conv => whnf)
        | (refine And.intro (by decide) ?_; conv => whnf)
        | (refine cs (fun _ => ?_) (fun _ => ?_) <;> conv => whnf)
      exact ⟨rfl, rfl⟩
end Go.Proofs.Ytoglfnjankinnaa.E
