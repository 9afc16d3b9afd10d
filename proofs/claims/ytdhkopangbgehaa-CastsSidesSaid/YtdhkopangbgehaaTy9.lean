/- Walks: Meet, kind, met; the law OrderMeet. No conditions. -/
import Derived.Test.YtdhkopangbgehaaTy8
set_option linter.unusedVariables false
set_option linter.unusedSimpArgs false
namespace Go.Proofs.Ytdhkopangbgehaa.E
open Go

theorem meet_right (a : Ty) : ∀ b, tright a = true → tright b = true → agreeF a b = true → tright (meetF a b) = true := by
  induction a using Ty.ind with
  | _ k ks ih =>
  rintro ⟨k', ks'⟩ ha hb hg
  simp only [meetF]
  split
  · exact hb
  · rename_i e0
    split
    · exact ha
    · rename_i e1
      obtain ⟨rfl, hl⟩ := agreeK hg e0 e1
      have e := right_eq_len ha hb
      have hall := (agreeL_all ks ks' e).1 hl
      have hp := tright_len ha
      have hml := meetL_len ks ks' e
      have : trights (meetL ks ks') = true := (trights_all _).2 fun t ht => by
        obtain ⟨i, hi, rfl⟩ := List.getElem_of_mem ht
        obtain ⟨x, hx⟩ : ∃ x, ks[i]? = some x := ⟨_, List.getElem?_eq_getElem (by omega)⟩
        obtain ⟨y, hy⟩ := get_both e hx
        have hm := meetL_take ks ks' i x y hx hy
        have hlt := (List.getElem?_eq_some_iff.1 hx).1
        have h2 : ((meetL ks ks').take (i + 1))[i]? = some (meetF x y) := by
          rw [hm, List.getElem?_append_right (by simp [hml]; omega)]
          simp [hml, Nat.min_eq_left (Nat.le_of_lt hlt)]
        rw [List.getElem?_take] at h2
        have h3 : (meetL ks ks')[i]? = some (meetF x y) := by simpa using h2
        rw [List.getElem?_eq_getElem hi] at h3
        rw [Option.some.inj h3]
        exact ih x (List.mem_of_getElem? hx) y (tright_kid ha (List.mem_of_getElem? hx)) (tright_kid hb (List.mem_of_getElem? hy)) (hall i x y hx hy)
      simp only [tright, this, Bool.and_true, decide_eq_true_eq, hml]
      exact hp
theorem Meet_right (a b : Ty) : tright (MeetS a b) = true := by
  unfold MeetS
  split
  · rename_i h
    obtain ⟨q1, q2, q3⟩ := agree_val h
    exact meet_right a b q1 q2 q3
  · simp [tright, trights, parts]

set_option maxRecDepth 10000 in
theorem Meet_call (a b : Ty) : ACall Try.prog 19 [a.val, b.val] [] (fun o σ => o = .ret (.tup [(MeetS a b).val, .c (.d (.bool (agreeS a b)))]) ∧ σ = []) := by
  obtain ⟨k, ks⟩ := a
  obtain ⟨k', ks'⟩ := b
  refine ACall.body tab_ok (ρ := 0) (N := 12) Try.func19 rfl rfl rfl rfl rfl ?_
  repeat' first
    | refine AW.seq ?_
    | refine AW.block ?_
    | (refine AW.region tab_ok ?_; conv => whnf)
    | (refine AW.cond ?_; conv => whnf)
    | (refine AW.skip ?_; conv => whnf)
    | (refine AW.ret ?_; conv => whnf)
    | (refine AW.exit ?_; conv => whnf)
    | (refine (Agree_call (.node k ks) (.node k' ks')).mono ?_; rintro _ _ ⟨rfl, rfl⟩; conv => whnf)
    | (refine And.intro (@rfl Val _) ?_; conv => whnf)
    | (refine And.intro (by decide) ?_; conv => whnf)
    | (refine cs (fun _ => ?_) (fun _ => ?_) <;> conv => whnf)
  · rename_i h
    have : agreeS (.node k ks) (.node k' ks') = false := by simpa using h
    refine ⟨?_, rfl⟩
    simp only [oneOf, MeetS, this]
    rfl
  · rename_i h
    have hg : agreeS (.node k ks) (.node k' ks') = true := by simpa using h
    obtain ⟨q1, q2, q3⟩ := agree_val hg
    have em : MeetS (.node k ks) (.node k' ks') = meetF (.node k ks) (.node k' ks') := by simp [MeetS, hg]
    rw [em]
    have cc := meet_call (max (nodes (.node k ks)) (nodes (.node k' ks'))) (.node k ks) (.node k' ks') (Nat.le_max_left _ _) (Nat.le_max_right _ _) q1 q2 q3
    generalize meetF (.node k ks) (.node k' ks') = m at cc
    obtain ⟨km, kms⟩ := m
    refine cc.mono ?_
    rintro _ _ ⟨rfl, rfl⟩
    conv => whnf
    repeat' first
      | refine AW.seq ?_
      | refine AW.block ?_
      | (refine AW.region tab_ok ?_; conv => whnf)
      | (refine AW.cond ?_; conv => whnf)
      | (refine AW.skip ?_; conv => whnf)
      | (refine AW.ret ?_; conv => whnf)
      | (refine AW.exit ?_; conv => whnf)
      | (refine And.intro (@rfl Val _) ?_; conv => whnf)
      | (refine And.intro (by decide) ?_; conv => whnf)
      | (refine cs (fun _ => ?_) (fun _ => ?_) <;> conv => whnf)
    refine ⟨?_, rfl⟩
    simp only [oneOf, hg]
    rfl

/-! ### kind, of a type and itself -/
set_option maxRecDepth 10000 in
theorem kind_call (a : Ty) : tright a = true → ACall Try.prog 21 [a.val, a.val] [] (fun o σ => o = .ret (.c (.d (.bool true))) ∧ σ = []) := by
  induction a using Ty.ind with
  | _ k ks ih =>
  intro ha
  have hle := parts_le k
  have hl1 := tright_len ha
  refine ACall.body tab_ok (ρ := 0) (N := 39) Try.func21 rfl rfl rfl rfl rfl ?_
  repeat' first
    | refine AW.seq ?_
    | refine AW.block ?_
    | (refine AW.region tab_ok ?_; conv => whnf)
    | (refine AW.draw (id := 6) tab_ok mixed [0, 1, 2, 3, 4, 5, 6, 7, 8, 9, 10, 11] (by kernel_rfl) ?_; conv => whnf)
    | (refine AW.cond ?_; conv => whnf)
    | (refine AW.skip ?_; conv => whnf)
    | (refine AW.ret ?_; conv => whnf)
    | (refine AW.exit ?_; conv => whnf)
    | (refine And.intro (@rfl Val _) ?_; conv => whnf)
    | (refine And.intro (by decide) ?_; conv => whnf)
    | (refine cs (fun _ => ?_) (fun _ => ?_) <;> conv => whnf)
  · rename_i h; simp at h
  · rename_i h0 h; simp at h
  · rename_i h0 h
    refine AW.loop (ι := UpTo ks) (fun x => ⟨39, [(23, .c (.d (.int .i64 x.i))), (22, .c (.d (.int .i64 (Ty.rows ks).length))), (2, .c (.ptr 0 0)), (3, .c (.ptr 1 0))], [.var [.d (.int .i8 k), .d (.sl 0 2 (Ty.rows ks))], .var [.d (.int .i8 k), .d (.sl 0 2 (Ty.rows ks))]], []⟩)
      (fun x => ks.length - x.i) ⟨0, Nat.zero_le _⟩ 2 (fun _ => rfl) (Nat.le_of_ble_eq_true rfl) ⟨⟨rfl, rfl, rfl, rfl, trivial⟩, rfl, rfl, ⟨[], rfl⟩, rfl⟩ (fun x => ?_)
    obtain ⟨i, hi⟩ := x
    repeat' first
      | refine AW.seq ?_
      | refine AW.block ?_
      | (refine AW.region tab_ok ?_; conv => whnf)
      | (refine AW.draw (id := 6) tab_ok mixed [0, 1, 2, 3, 4, 5, 6, 7, 8, 9, 10, 11] (by kernel_rfl) ?_; conv => whnf)
      | (refine AW.cond ?_; conv => whnf)
      | (refine AW.skip ?_; conv => whnf)
      | (refine AW.ret ?_; conv => whnf)
      | (refine AW.exit ?_; conv => whnf)
      | (refine And.intro (@rfl Val _) ?_; conv => whnf)
      | (refine And.intro (by decide) ?_; conv => whnf)
      | (refine cs (fun _ => ?_) (fun _ => ?_) <;> conv => whnf)
    · rename_i h1
      simp only [rows_length] at h1 ⊢
      have := of_decide_eq_true h1
      refine ⟨by omega, fun row hrow => ?_⟩
      obtain ⟨⟨kx, kxs⟩, ht, rfl⟩ := rows_get ks i row (by simpa using hrow)
      have hlt : i < ks.length := (List.getElem?_eq_some_iff.1 ht).1
      have hm := List.mem_of_getElem? ht
      conv => whnf
      repeat' first
        | refine AW.seq ?_
        | refine AW.block ?_
        | (refine AW.region tab_ok ?_; conv => whnf)
        | (refine AW.draw (id := 6) tab_ok mixed [0, 1, 2, 3, 4, 5, 6, 7, 8, 9, 10, 11] (by kernel_rfl) ?_; conv => whnf)
        | (refine AW.cond ?_; conv => whnf)
        | (refine AW.skip ?_; conv => whnf)
        | (refine AW.ret ?_; conv => whnf)
        | (refine AW.exit ?_; conv => whnf)
        | (refine And.intro (@rfl Val _) ?_; conv => whnf)
        | (refine And.intro (by decide) ?_; conv => whnf)
        | (refine cs (fun _ => ?_) (fun _ => ?_) <;> conv => whnf)
      simp only [rows_length]
      refine ⟨by omega, fun row hrow => ?_⟩
      obtain ⟨y, hu, rfl⟩ := rows_get ks i row (by simpa using hrow)
      rw [ht] at hu
      cases hu
      conv => whnf
      repeat' first
        | refine AW.seq ?_
        | refine AW.block ?_
        | (refine AW.region tab_ok ?_; conv => whnf)
        | (refine AW.draw (id := 6) tab_ok mixed [0, 1, 2, 3, 4, 5, 6, 7, 8, 9, 10, 11] (by kernel_rfl) ?_; conv => whnf)
        | (refine AW.cond ?_; conv => whnf)
        | (refine AW.skip ?_; conv => whnf)
        | (refine AW.ret ?_; conv => whnf)
        | (refine AW.exit ?_; conv => whnf)
        | (refine (ih _ hm (tright_kid ha hm)).mono ?_; rintro _ _ ⟨rfl, rfl⟩; conv => whnf)
        | (refine And.intro (@rfl Val _) ?_; conv => whnf)
        | (refine And.intro (by decide) ?_; conv => whnf)
        | (refine cs (fun _ => ?_) (fun _ => ?_) <;> conv => whnf)
      rw [wrap64 (x := (i : Int) + 1) (by omega) (by omega)]
      exact ⟨⟨i + 1, hlt⟩, ⟨⟨rfl, rfl, rfl, rfl, trivial⟩, rfl, rfl, ⟨[], rfl⟩, rfl⟩, show ks.length - (i + 1) < ks.length - i by omega⟩
    · exact ⟨rfl, rfl⟩
set_option maxRecDepth 10000 in
theorem met_call : ACall Try.prog 22 [] [] (fun o σ => o = .ret (.c (.d (.bool true))) ∧ σ = []) := by
  have e1 : agreeS (.node 0 []) (.node 2 []) = true := by simp [agreeS, agreeF, tcheck, nodes, nodesL, deepF, deepL, tright, trights, parts]
  have e2 : MeetS (.node 0 []) (.node 2 []) = .node 2 [] := by simp [MeetS, e1, meetF]
  have cc := Meet_call (.node 0 []) (.node 2 [])
  rw [e1, e2] at cc
  refine ACall.body tab_ok (ρ := 0) (N := 15) Try.func22 rfl rfl rfl rfl rfl ?_
  repeat' first
    | refine AW.seq ?_
    | refine AW.block ?_
    | (refine AW.region tab_ok ?_; conv => whnf)
    | (refine AW.cond ?_; conv => whnf)
    | (refine AW.skip ?_; conv => whnf)
    | (refine AW.ret ?_; conv => whnf)
    | (refine AW.exit ?_; conv => whnf)
    | (refine (cc).mono ?_; rintro _ _ ⟨rfl, rfl⟩; conv => whnf)
    | (refine And.intro (@rfl Val _) ?_; conv => whnf)
    | (refine And.intro (by decide) ?_; conv => whnf)
    | (refine cs (fun _ => ?_) (fun _ => ?_) <;> conv => whnf)
  all_goals first | exact ⟨rfl, rfl⟩ | (rename_i h; simp at h) | skip
set_option maxRecDepth 10000 in
theorem law_OrderMeet (a b : Ty) : ACall Try.prog 6 [a.val, b.val] [] (fun o σ => o = .ret (.c (.d (.bool true))) ∧ σ = []) := by
  have c1 := Meet_call a b
  have c2 := rMeet_call a b
  have hr := Meet_right a b
  generalize MeetS a b = m at c1 c2 hr
  have c3 := kind_call m hr
  obtain ⟨km, kms⟩ := m
  obtain ⟨k, ks⟩ := a
  obtain ⟨k', ks'⟩ := b
  refine ACall.body tab_ok (ρ := 0) (N := 32) Try.func6 rfl rfl rfl rfl rfl ?_
  repeat' first
    | refine AW.seq ?_
    | refine AW.block ?_
    | (refine AW.region tab_ok ?_; conv => whnf)
    | (refine AW.cond ?_; conv => whnf)
    | (refine AW.skip ?_; conv => whnf)
    | (refine AW.ret ?_; conv => whnf)
    | (refine AW.exit ?_; conv => whnf)
    | (refine (c1).mono ?_; rintro _ _ ⟨rfl, rfl⟩; conv => whnf)
    | (refine (c2).mono ?_; rintro _ _ ⟨rfl, rfl⟩; conv => whnf)
    | (refine (c3).mono ?_; rintro _ _ ⟨rfl, rfl⟩; conv => whnf)
    | (refine (met_call).mono ?_; rintro _ _ ⟨rfl, rfl⟩; conv => whnf)
    | (refine And.intro (@rfl Val _) ?_; conv => whnf)
    | (refine And.intro (by decide) ?_; conv => whnf)
    | (refine cs (fun _ => ?_) (fun _ => ?_) <;> conv => whnf)
  all_goals first | exact ⟨rfl, rfl⟩ | (rename_i h; simp at h) | trace_state
end Go.Proofs.Ytdhkopangbgehaa.E
