/- Walks: the laws' wakes on casts; the law CastsSides. No conditions. -/
import Derived.Test.YtoglfnjankinnaaCs7
set_option linter.unusedVariables false
set_option linter.unusedSimpArgs false
namespace Go.Proofs.Ytoglfnjankinnaa.E
open Go

def tmW : Tm := (.node 17 ⟨#[]⟩ ⟨#[]⟩ 0 0 [] 1 [] 5 0 [.node 17 ⟨#[]⟩ ⟨#[]⟩ 0 1 [] 0 [] 2 0 [.node 1 ⟨#[]⟩ ⟨#[]⟩ 7 0 [] 0 [] 0 0 []]])
theorem tmW_casts : tcastsS tmW = [.mk 0 [] 1 [] 5, .mk 1 [] 0 [] 2] := by
  unfold tcastsS
  rw [if_pos (by decide +kernel)]
  rfl
theorem tmW_erase : tmEraseS tmW = .node 1 ⟨#[]⟩ ⟨#[]⟩ 7 0 [] 0 [] 0 0 [] := by
  unfold tmEraseS
  rw [if_pos (by decide +kernel)]
  rfl
set_option maxRecDepth 10000 in
set_option maxHeartbeats 1000000 in
theorem wakes14_call : ACall Try.prog 11 [] [] (fun o σ => o = .ret (.c (.d (.bool true))) ∧ σ = []) := by
  have c1 := All_call tmW
  rw [tmW_casts, show crows [.mk 0 [] 1 [] 5, .mk 1 [] 0 [] 2] = [[.int .i8 0, .sl 0 2 [], .int .i8 1, .sl 0 2 [], .int .i64 5], [.int .i8 1, .sl 0 2 [], .int .i8 0, .sl 0 2 [], .int .i64 2]] from rfl] at c1
  have c2 := Safe_call tmW 5 (by omega) (by omega)
  rw [show safeS 5 tmW = (false, true) by decide +kernel] at c2
  have c3 := Safe_call tmW 2 (by omega) (by omega)
  rw [show safeS 2 tmW = (true, true) by decide +kernel] at c3
  have c4 := Erase_call tmW
  rw [tmW_erase] at c4
  have c5 := Height_call tmW
  rw [show tmHeight tmW = 1 by decide +kernel] at c5
  have c6 := Same_call (.node 1 []) (.node 1 [])
  rw [show sameS (.node 1 []) (.node 1 []) = true by decide +kernel] at c6
  refine ACall.body tab_ok (ρ := 0) (N := 81) Try.func11 rfl rfl rfl rfl rfl ?_
  repeat' first
    | ((refine ⟨by simp, fun row hrow => ?_⟩; simp at hrow; subst hrow; conv => whnf))
    | refine AW.seq ?_
    | refine AW.block ?_
    | (refine AW.region tab_ok ?_; conv => whnf)
    | (refine AW.draw (id := 7) tab_ok mixed [0, 1, 2, 3, 4, 5, 6, 7, 8, 9, 10, 11, 12, 13, 14, 15, 16, 17, 18, 19, 20, 21, 22, 23, 24, 25, 26, 27, 28, 29, 30, 31, 32, 33, 34, 35, 36, 37, 38, 39, 40, 41, 42, 43, 44, 45, 46, 47, 48, 49] (by kernel_rfl) ?_; conv => whnf)
    | (refine AW.cond ?_; conv => whnf)
    | (refine AW.skip ?_; conv => whnf)
    | (refine AW.ret ?_; conv => whnf)
    | (refine AW.exit ?_; conv => whnf)
    | (refine (c1).mono ?_; rintro _ _ ⟨rfl, rfl⟩; conv => whnf)
    | (refine (c2).mono ?_; rintro _ _ ⟨rfl, rfl⟩; conv => whnf)
    | (refine (c3).mono ?_; rintro _ _ ⟨rfl, rfl⟩; conv => whnf)
    | (refine (c4).mono ?_; rintro _ _ ⟨rfl, rfl⟩; conv => whnf)
    | (refine (c5).mono ?_; rintro _ _ ⟨rfl, rfl⟩; conv => whnf)
    | (refine (c6).mono ?_; rintro _ _ ⟨rfl, rfl⟩; conv => whnf)
    | (refine And.intro (@rfl Val _) ?_; conv => whnf)
    | (refine And.intro (by decide) ?_; conv => whnf)
    | (refine cs (fun _ => ?_) (fun _ => ?_) <;> conv => whnf)
  all_goals first | exact ⟨rfl, rfl⟩ | trace_state
structure SidesI (l : List Ct) where
  i : Nat
  hi : i ≤ l.length
end Go.Proofs.Ytoglfnjankinnaa.E
