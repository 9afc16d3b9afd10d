/- Walk: terms.right. No conditions. -/
import Derived.Test.YthmbncehoblgpaaGreatDoorTm6
set_option linter.unusedVariables false
set_option linter.unusedSimpArgs false
namespace Go.Proofs.YthmbncehoblgpaaGreatDoor.E
open Go

set_option maxRecDepth 10000 in
set_option maxHeartbeats 4000000 in
theorem tmright_call (t : Tm) : tmN t ≤ 8192 → ACall Tryz.prog 41 [.c (.d (.rp 0 t.cells))] [] (fun o σ => o = .ret (.c (.d (.bool (tmright t)))) ∧ σ = []) := by
  induction t using Tm.ind with
  | _ k name arg num tk tks uk uks label place ks ih =>
  intro hN
  have hlen := tmNL_len ks
  simp only [tmN] at hN
  have ih' : ∀ t ∈ ks, ACall Tryz.prog 41 [.c (.d (.rp 0 t.cells))] [] (fun o σ => o = .ret (.c (.d (.bool (tmright t)))) ∧ σ = []) := fun t ht => ih t ht (by have := tmN_mem ks t ht; omega)
  have fin : ∀ (s0 : Int) (b1 b2 b3 b4 b5 b6 b7 : Bool), ownRight (.node k name arg num tk tks uk uks label place ks) = true → ∀ env, get env 0 = .c (.d (.rp 0 (Tm.node k name arg num tk tks uk uks label place ks).cells)) →
      AW Tryz.prog tab 0 rest72 ⟨120, env, [.var [.d (.int .i64 s0), .d (.bool b1), .d (.bool b2), .d (.bool b3), .d (.bool b4), .d (.bool b5), .d (.bool b6), .d (.bool b7)]], []⟩ (afin tab 0 41 Tryz.f41.results.toList ([] : List AObj).length (fun o σ => o = .ret (.c (.d (.bool (tmright (.node k name arg num tk tks uk uks label place ks))))) ∧ σ = [])) := fun s0 b1 b2 b3 b4 b5 b6 b7 ho env g0 => by
    have e : tmright (.node k name arg num tk tks uk uks label place ks) = tmrights ks := by simp [tmright, ho]
    rw [e]
    refine AW.fits ?_ ?_ (right_rest k name arg num tk tks uk uks label place ks s0 b1 b2 b3 b4 b5 b6 b7 (by omega) ih')
    · exact ⟨⟨g0, trivial⟩, rfl, rfl, ⟨[], rfl⟩, rfl⟩
    · rfl
  clear ih ih' hN hlen
  have c1 := of_call k
  by_cases hv : validK k = true
  · rcases kinds k hv with rfl | rfl | rfl | rfl | rfl | rfl | rfl | rfl | rfl | rfl | rfl | rfl | rfl | rfl | rfl | rfl | rfl | rfl
    all_goals
      refine ACall.body tab_ok (ρ := 0) (N := 120) Tryz.func41 rfl rfl rfl rfl rfl ?_
      repeat' first | (refine fin _ _ _ _ _ _ _ _ ?_ _ rfl) | refine AW.seq ?_ | refine AW.block ?_ | (refine (_root_.id : AW _ _ _ (.region 3 _ true) _ _ → _) ?_; refine AW.draw (id := 3) tab_ok mixed [0, 1, 2, 3, 4, 5, 6, 7, 8] (by kernel_rfl) ?_; conv => whnf) | ((first | refine AW.region tab_ok ?_ | refine AW.cond ?_ | refine AW.skip ?_ | refine AW.ret ?_ | refine AW.exit ?_); conv => whnf) | ((first | refine (c1).mono ?_ | refine (name_call name).mono ?_ | refine (name_call arg).mono ?_ | refine (check_call (.node tk tks)).mono ?_ | refine (check_call (.node uk uks)).mono ?_); rintro _ _ ⟨rfl, rfl⟩; conv => whnf) | ((first | refine And.intro (@rfl Val _) ?_ | refine And.intro (by decide) ?_ | refine cs (fun _ => ?_) (fun _ => ?_)) <;> conv => whnf)
    all_goals clear c1 fin hv
    all_goals first
      | (refine ⟨outb ?_, rfl⟩
         simp only [tmright, ownRight]
         simp_all [kidsK, validK, nameK, argK, typeK, toK, opF, opsF, trows_length]
         done)
      | (refine ⟨outb ?_, rfl⟩
         simp only [tmright, ownRight]
         simp_all [kidsK, validK, nameK, argK, typeK, toK, opF, opsF, trows_length]
         omega)
      | (simp only [ownRight]
         simp_all [kidsK, validK, nameK, argK, typeK, toK, opF, opsF, trows_length]
         done)
      | (simp only [ownRight]
         simp_all [kidsK, validK, nameK, argK, typeK, toK, opF, opsF, trows_length]
         omega)
  · have hv : validK k = false := by simpa using hv
    rw [hv] at c1
    refine ACall.body tab_ok (ρ := 0) (N := 120) Tryz.func41 rfl rfl rfl rfl rfl ?_
    skip
    repeat' first | refine AW.seq ?_ | refine AW.block ?_ | (refine (_root_.id : AW _ _ _ (.region 3 _ true) _ _ → _) ?_; refine AW.draw (id := 3) tab_ok mixed [0, 1, 2, 3, 4, 5, 6, 7, 8] (by kernel_rfl) ?_; conv => whnf) | ((first | refine AW.region tab_ok ?_ | refine AW.cond ?_ | refine AW.skip ?_ | refine AW.ret ?_ | refine AW.exit ?_); conv => whnf) | (refine (c1).mono ?_; rintro _ _ ⟨rfl, rfl⟩; conv => whnf) | ((first | refine And.intro (@rfl Val _) ?_ | refine And.intro (by decide) ?_ | refine cs (fun _ => ?_) (fun _ => ?_)) <;> conv => whnf)
    have hk : kidsK k = -1 := by simp [validK] at hv; unfold kidsK; repeat rw [if_neg (by omega)]
    refine ⟨outb ?_, rfl⟩
    simp only [tmright, ownRight, hk]
    rw [show decide ((-1 : Int) = (ks.length : Int)) = false by simp <;> omega]
    rfl
end Go.Proofs.YthmbncehoblgpaaGreatDoor.E
