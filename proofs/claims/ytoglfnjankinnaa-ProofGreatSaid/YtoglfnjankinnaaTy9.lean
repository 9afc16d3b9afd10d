/- Walks: Meet, kind, met; the law OrderMeet. No conditions. -/
import Derived.Test.YtoglfnjankinnaaTy8
set_option linter.unusedVariables false
set_option linter.unusedSimpArgs false
namespace Go.Proofs.Ytoglfnjankinnaa.E
open Go

theorem meet_right (a : Ty) : ∀ b, tright a = true → tright b = true → agreeF a b = true → tright (meetF a b) = true := by
  induction a using Ty.ind with
  | _ k ks ih =>
  rintro ⟨k', ks'⟩ ha hb hg
  simp only [meetF]
  split
  · exact hb
  · rename_i e0
    split
    · exact ha
    · rename_i e1
      obtain ⟨rfl, hl⟩ := agreeK hg e0 e1
      have e := right_eq_len ha hb
      have hall := (agreeL_all ks ks' e).1 hl
      have hp := tright_len ha
      have hml := meetL_len ks ks' e
      have : trights (meetL ks ks') = true := (trights_all _).2 fun t ht => by
        obtain ⟨i, hi, rfl⟩ := List.getElem_of_mem ht
        obtain ⟨x, hx⟩ : ∃ x, ks[i]? = some x := ⟨_, List.getElem?_eq_getElem (by omega)⟩
        obtain ⟨y, hy⟩ := get_both e hx
        have hm := meetL_take ks ks' i x y hx hy
        have hlt := (List.getElem?_eq_some_iff.1 hx).1
        have h2 : ((meetL ks ks').take (i + 1))[i]? = some (meetF x y) := by
          rw [hm, List.getElem?_append_right (by simp [hml]; omega)]
          simp [hml, Nat.min_eq_left (Nat.le_of_lt hlt)]
        rw [List.getElem?_take] at h2
        have h3 : (meetL ks ks')[i]? = some (meetF x y) := by simpa using h2
        rw [List.getElem?_eq_getElem hi] at h3
        rw [Option.some.inj h3]
        exact ih x (List.mem_of_getElem? hx) y (tright_kid ha (List.mem_of_getElem? hx)) (tright_kid hb (List.mem_of_getElem? hy)) (hall i x y hx hy)
      simp only [tright, this, Bool.and_true, decide_eq_true_eq, hml]
      exact hp
theorem Meet_right (a b : Ty) : tright (MeetS a b) = true := by
  unfold MeetS
  split
  · rename_i h
    obtain ⟨q1, q2, q3⟩ := agree_val h
    exact meet_right a b q1 q2 q3
  · simp [tright, trights, parts]

set_option maxRecDepth 10000 in
theorem Meet_call (a b : Ty) : ACall Try.prog 115 [a.val, b.val] [] (fun o σ => o = .ret (.tup [(MeetS a b).val, .c (.d (.bool (agreeS a b)))]) ∧ σ = []) := by
  obtain ⟨k, ks⟩ := a
  obtain ⟨k', ks'⟩ := b
  refine ACall.body tab_ok (ρ := 0) (N := 12) Try.func115 rfl rfl rfl rfl rfl ?_
  repeat' first
    | refine AW.seq ?_
    | refine AW.block ?_
    | (refine AW.region tab_ok ?_; conv => whnf)
    | (refine AW.cond ?_; conv => whnf)
    | (refine AW.skip ?_; conv => whnf)
    | (refine AW.ret ?_; conv => whnf)
    | (refine AW.exit ?_; conv => whnf)
    | (refine (Agree_call (.node k ks) (.node k' ks')).mono ?_; rintro _ _ ⟨rfl, rfl⟩; conv => whnf)
    | (refine And.intro (@rfl Val _) ?_; conv => whnf)
    | (refine And.intro (by decide) ?_; conv => whnf)
    | (refine cs (fun _ => ?_) (fun _ => ?_) <;> conv => whnf)
  · rename_i h
    have : agreeS (.node k ks) (.node k' ks') = false := by simpa using h
    refine ⟨?_, rfl⟩
    simp only [oneOf, MeetS, this]
    rfl
  · rename_i h
    have hg : agreeS (.node k ks) (.node k' ks') = true := by simpa using h
    obtain ⟨q1, q2, q3⟩ := agree_val hg
    have em : MeetS (.node k ks) (.node k' ks') = meetF (.node k ks) (.node k' ks') := by simp [MeetS, hg]
    rw [em]
    have cc := meet_call (max (nodes (.node k ks)) (nodes (.node k' ks'))) (.node k ks) (.node k' ks') (Nat.le_max_left _ _) (Nat.le_max_right _ _) q1 q2 q3
    generalize meetF (.node k ks) (.node k' ks') = m at cc
    obtain ⟨km, kms⟩ := m
    refine cc.mono ?_
    rintro _ _ ⟨rfl, rfl⟩
    conv => whnf
    repeat' first
      | refine AW.seq ?_
      | refine AW.block ?_
      | (refine AW.region tab_ok ?_; conv => whnf)
      | (refine AW.cond ?_; conv => whnf)
      | (refine AW.skip ?_; conv => whnf)
      | (refine AW.ret ?_; conv => whnf)
      | (refine AW.exit ?_; conv => whnf)
      | (refine And.intro (@rfl Val _) ?_; conv => whnf)
      | (refine And.intro (by decide) ?_; conv => whnf)
      | (refine cs (fun _ => ?_) (fun _ => ?_) <;> conv => whnf)
    refine ⟨?_, rfl⟩
    simp only [oneOf, hg]
    rfl

/-! ### kind, of a type and itself -/
end Go.Proofs.Ytoglfnjankinnaa.E
