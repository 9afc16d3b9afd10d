/- The walk of TermsKnown. No conditions. -/
import Derived.Test.YtoglfnjankinnaaTm9
import Derived.Test.YtoglfnjankinnaaFr6
import Derived.KernelRfl
set_option linter.unusedVariables false
set_option linter.unusedSimpArgs false
namespace Go.Proofs.Ytoglfnjankinnaa.E
open Go

def varT (s : ByteArray) : Tm := .node 0 s ⟨#[]⟩ 0 0 [] 0 [] 0 0 []
def knF : Tm := .node 4 ⟨#[120]⟩ ⟨#[]⟩ 0 1 [] 0 [] 0 0 [.node 6 ⟨#[]⟩ ⟨#[]⟩ 0 0 [] 0 [] 0 0 [varT ⟨#[120]⟩, varT ⟨#[121]⟩]]
def bigT : Nat → Tm
  | 0 => varT ⟨#[120]⟩
  | i + 1 => .node 9 ⟨#[]⟩ ⟨#[]⟩ 0 0 [] 0 [] 0 0 [bigT i, bigT i]
theorem big_N : ∀ i, tmN (bigT i) + 1 = 2 ^ (i + 1)
  | 0 => by simp [bigT, varT, tmN, tmNL, typeK, toK]
  | i + 1 => by
    have := big_N i
    simp only [bigT, tmN, tmNL, typeK, toK]
    rw [Nat.pow_succ]
    simp
    omega
theorem bsort_one (s : ByteArray) : bsort [s] = [s] := List.perm_singleton.1 (bsort_perm [s])
theorem kn_check : tmcheck knF = 0 := by decide +kernel
theorem kn_N : tmN knF = 5 := by decide +kernel
theorem kn_D : tmDepth knF = 3 := by decide +kernel
theorem kn_lam : tmcheck (.node 4 ⟨#[]⟩ ⟨#[]⟩ 0 0 [] 0 [] 0 0 []) = 30 := by decide +kernel
theorem kn_int : tcheck (.node 1 []) = 0 := by decide +kernel
theorem kn_free : freeS knF = [⟨#[121]⟩] := by
  rw [free_same, rfreeS, if_pos kn_check]
  have : rfree knF [] [] = [⟨#[121]⟩] := by
    simp [knF, varT, rfree, rfrees, wsK, inF]
  rw [this, bsort_one]
structure BigI where
  i : Nat
  hi : i ≤ 40
  k : Int
  s : ByteArray
  q : DV
  h : (i = 0 ∧ k = 0 ∧ s = ⟨#[120]⟩ ∧ q = .nils) ∨ (∃ j, i = j + 1 ∧ k = 9 ∧ s = ⟨#[]⟩ ∧ q = .sl 0 11 [(bigT j).cells, (bigT j).cells])
set_option maxRecDepth 10000 in
theorem law_TermsKnown : ACall Try.prog 7 [] [] (fun o σ => o = .ret (.c (.d (.bool true))) ∧ σ = []) := by
  have c1 := tmCheck_call knF
  have c2 := tnodes_call knF
  have c3 := tDepth_call knF
  have c4 := tFree_call knF
  have c5 := names_call [⟨#[121]⟩] (by decide)
  have c6 := tmCheck_call (bigT 40)
  have c7 := tnodes_call (bigT 40)
  have c8 := tmCheck_call (.node 4 ⟨#[]⟩ ⟨#[]⟩ 0 0 [] 0 [] 0 0 [])
  have c9 := rcheck_call (.node 1 [])
  have hb : 8192 < tmN (bigT 40) := by have := big_N 40; simp only [Nat.reducePow, Nat.reduceAdd] at this; omega
  rw [kn_check] at c1
  rw [kn_N] at c2
  rw [kn_D] at c3
  rw [kn_free] at c4
  rw [show tmcheck (bigT 40) = 32 by simp only [tmcheck]; rw [if_pos hb]] at c6
  rw [show min (tmN (bigT 40)) 8193 = 8193 by omega] at c7
  rw [kn_lam] at c8
  rw [kn_int] at c9
  refine ACall.body tab_ok (ρ := 0) (N := 62) Try.func7 rfl rfl rfl rfl rfl ?_
  repeat' first
    | refine AW.seq ?_
    | refine AW.block ?_
    | (refine AW.region tab_ok ?_; conv => whnf)
    | (refine AW.cond ?_; conv => whnf)
    | (refine AW.skip ?_; conv => whnf)
    | (refine AW.ret ?_; conv => whnf)
    | (refine AW.exit ?_; conv => whnf)
    | (refine And.intro (@rfl Val _) ?_; conv => whnf)
    | (refine And.intro (by decide) ?_; conv => whnf)
    | (refine cs (fun _ => ?_) (fun _ => ?_) <;> conv => whnf)
  refine AW.loop (ι := BigI) (fun x => ⟨62, [(15, .c (.d (.int .i64 x.i))), (3, .c (.ptr 2 0)), (4, .c (.ptr 3 0))],
      [.var [.d (.int .i8 0), .d (.str ⟨#[120]⟩), .d (.str ⟨#[]⟩), .d (.int .i64 0), .d (.int .i8 0), .d .nils, .d (.int .i8 0), .d .nils, .d (.int .i64 0), .d (.int .i64 0), .d .nils],
       .var [.d (.int .i8 0), .d (.str ⟨#[121]⟩), .d (.str ⟨#[]⟩), .d (.int .i64 0), .d (.int .i8 0), .d .nils, .d (.int .i8 0), .d .nils, .d (.int .i64 0), .d (.int .i64 0), .d .nils],
       .var [.d (.int .i8 4), .d (.str ⟨#[120]⟩), .d (.str ⟨#[]⟩), .d (.int .i64 0), .d (.int .i8 1), .d .nils, .d (.int .i8 0), .d .nils, .d (.int .i64 0), .d (.int .i64 0), .d (.sl 0 11 (Tm.rows [.node 6 ⟨#[]⟩ ⟨#[]⟩ 0 0 [] 0 [] 0 0 [varT ⟨#[120]⟩, varT ⟨#[121]⟩]]))],
       .var [.d (.int .i8 x.k), .d (.str x.s), .d (.str ⟨#[]⟩), .d (.int .i64 0), .d (.int .i8 0), .d .nils, .d (.int .i8 0), .d .nils, .d (.int .i64 0), .d (.int .i64 0), .d x.q]], []⟩)
    (fun x => 40 - x.i) ⟨0, by omega, 0, ⟨#[120]⟩, .nils, .inl ⟨rfl, rfl, rfl, rfl⟩⟩ 4 (fun _ => rfl) (Nat.le_of_ble_eq_true rfl) ⟨⟨rfl, rfl, rfl, trivial⟩, rfl, rfl, ⟨[], rfl⟩, rfl⟩ (fun x => ?_)
  obtain ⟨i, hi, k, s, q, h⟩ := x
  rcases h with ⟨rfl, rfl, rfl, rfl⟩ | ⟨j, rfl, rfl, rfl, rfl⟩
  · skip
    repeat' first
      | refine AW.seq ?_
      | refine AW.block ?_
      | (refine AW.region tab_ok ?_; conv => whnf)
      | (refine AW.cond ?_; conv => whnf)
      | (refine AW.skip ?_; conv => whnf)
      | (refine AW.ret ?_; conv => whnf)
      | (refine AW.exit ?_; conv => whnf)
      | (refine And.intro (@rfl Val _) ?_; conv => whnf)
      | (refine And.intro (by decide) ?_; conv => whnf)
      | (refine cs (fun _ => ?_) (fun _ => ?_) <;> conv => whnf)
    · rw [wrap64 (by simp only; omega) (by simp only; omega)]
      exact ⟨⟨1, by omega, 9, ⟨#[]⟩, .sl 0 11 [(bigT 0).cells, (bigT 0).cells], .inr ⟨0, rfl, rfl, rfl, rfl⟩⟩, ⟨⟨rfl, rfl, rfl, trivial⟩, rfl, rfl, ⟨[], rfl⟩, rfl⟩, show 40 - 1 < 40 - 0 by omega⟩
  · skip
    repeat' first
      | refine AW.seq ?_
      | refine AW.block ?_
      | (refine AW.region tab_ok ?_; conv => whnf)
      | (refine AW.cond ?_; conv => whnf)
      | (refine AW.skip ?_; conv => whnf)
      | (refine AW.ret ?_; conv => whnf)
      | (refine AW.exit ?_; conv => whnf)
      | (refine And.intro (@rfl Val _) ?_; conv => whnf)
      | (refine And.intro (by decide) ?_; conv => whnf)
      | (refine cs (fun _ => ?_) (fun _ => ?_) <;> conv => whnf)
    · rename_i h1
      have := of_decide_eq_true h1
      simp only at this
      rw [wrap64 (by simp only; omega) (by simp only; omega)]
      exact ⟨⟨j + 1 + 1, by omega, 9, ⟨#[]⟩, .sl 0 11 [(bigT (j + 1)).cells, (bigT (j + 1)).cells], .inr ⟨j + 1, rfl, rfl, rfl, rfl⟩⟩, ⟨⟨rfl, rfl, rfl, trivial⟩, rfl, rfl, ⟨[], rfl⟩, rfl⟩, show 40 - (j + 1 + 1) < 40 - (j + 1) by omega⟩
    · rename_i h1
      have := of_decide_eq_false h1
      simp only at this
      obtain rfl : j = 39 := by omega
      repeat' first
        | refine AW.seq ?_
        | refine AW.block ?_
        | (refine AW.region tab_ok ?_; conv => whnf)
        | (refine AW.cond ?_; conv => whnf)
        | (refine AW.skip ?_; conv => whnf)
        | (refine AW.ret ?_; conv => whnf)
        | (refine AW.exit ?_; conv => whnf)
        | (refine (c1).mono ?_; rintro _ _ ⟨rfl, rfl⟩; conv => whnf)
        | (refine (c2).mono ?_; rintro _ _ ⟨rfl, rfl⟩; conv => whnf)
        | (refine (c3).mono ?_; rintro _ _ ⟨rfl, rfl⟩; conv => whnf)
        | (refine (c4).mono ?_; rintro _ _ ⟨rfl, rfl⟩; conv => whnf)
        | (refine (c5).mono ?_; rintro _ _ ⟨rfl, rfl⟩; conv => whnf)
        | (refine (c6).mono ?_; rintro _ _ ⟨rfl, rfl⟩; conv => whnf)
        | (refine (c7).mono ?_; rintro _ _ ⟨rfl, rfl⟩; conv => whnf)
        | (refine (c8).mono ?_; rintro _ _ ⟨rfl, rfl⟩; conv => whnf)
        | (refine (c9).mono ?_; rintro _ _ ⟨rfl, rfl⟩; conv => whnf)
        | (refine And.intro (@rfl Val _) ?_; conv => whnf)
        | (refine And.intro (by decide) ?_; conv => whnf)
        | (refine cs (fun _ => ?_) (fun _ => ?_) <;> conv => whnf)
      exact ⟨rfl, rfl⟩
end Go.Proofs.Ytoglfnjankinnaa.E
