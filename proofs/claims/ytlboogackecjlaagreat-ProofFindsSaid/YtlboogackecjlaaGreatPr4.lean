/- The document's rules: the terms that bind nothing. No conditions. -/
import Derived.Test.YtlboogackecjlaaGreatGenX16
import Derived.Test.YtlboogackecjlaaGreatEngX3
set_option linter.unusedVariables false
set_option linter.unusedSimpArgs false
namespace Go.Proofs.YtlboogackecjlaaGreat.E
open Go
def oTPr4_64_25 : OT := (.op 0 (.op 1 (.op 2 (.op 3 (.op 5 (.op 4 (.op 6 (.alt (.op 7 (.op 8 (.op 9 (.op 10 .nil)))) (.op 8 (.op 7 (.op 9 (.op 10 .nil))))))))))))

set_option maxRecDepth 10000 in
set_option maxHeartbeats 4000000 in
theorem oth6 (name arg : ByteArray) (num tk : Int) (tks : List Ty) (uk : Int) (uks : List Ty) (label place : Int) (l : List Bd) (t0 t1 : Tm) (q0 q1 : Ty × Flt)
    (c0 : ACall Tryz.prog 23 [t0.val, .c (.d (.sl 0 3 (bds l))), .c (.d (.int .i64 0))] [] (fun o σ => o = rV q0 ∧ σ = []))
    (c1 : ACall Tryz.prog 23 [t1.val, .c (.d (.sl 0 3 (bds l))), .c (.d (.int .i64 0))] [] (fun o σ => o = rV q1 ∧ σ = []))
    : ACall Tryz.prog 64 [(Tm.node 6 name arg num tk tks uk uks label place [t0, t1]).val, .c (.d (.sl 0 3 (bds l))), .c (.d (.int .i64 0))] [] (fun o σ => o = rV (othM 6 name (.node tk tks) place [q0, q1]) ∧ σ = []) := by
  have fl := fun e => Rfail_call e 6 name arg num tk tks uk uks label place [t0, t1]
  have fi := fun a => Rfine_call a 6 name arg num tk tks uk uks label place [t0, t1]
  obtain ⟨k0, n0, g0, m0, tk0, ts0, uk0, us0, b0, p0, ks0⟩ := t0
  obtain ⟨k1, n1, g1, m1, tk1, ts1, uk1, us1, b1, p1, ks1⟩ := t1
  obtain ⟨⟨a0, s0⟩, ⟨e0, x0, w0⟩⟩ := q0
  obtain ⟨⟨a1, s1⟩, ⟨e1, x1, w1⟩⟩ := q1
  by_cases h0 : e0 = 0
  · subst h0
    by_cases h1 : e1 = 0
    · subst h1
      have d0 := Rmatches_call 3 (by simp) (Ty.node a0 s0)
      have d1 := Ragrees_call (Ty.node a1 s1) (asL 3 (Ty.node a0 s0))
      have hr : othM 6 name (Ty.node tk tks) place [((Ty.node a0 s0), ⟨0, x0, w0⟩), ((Ty.node a1 s1), ⟨0, x1, w1⟩)] = restM 6 name (Ty.node tk tks) place [(Ty.node a0 s0), (Ty.node a1 s1)] := rfl
      rw [hr]
      simp only [restM, List.getD_cons_zero, List.getD_cons_succ, List.getD_nil]
      clear hr
      generalize asB 3 (Ty.node a0 s0) = z0 at *
      generalize agreeS (Ty.node a1 s1) (asL 3 (Ty.node a0 s0)) = z1 at *
      generalize asL 3 (Ty.node a0 s0) = z2 at *
      obtain ⟨z2k, z2s⟩ := z2
      generalize asR 3 (Ty.node a0 s0) = z3 at *
      obtain ⟨z3k, z3s⟩ := z3
      cases z0 <;> cases z1
      all_goals (
        refine ACall.body tab_ok (ρ := 0) (N := 149) Tryz.func64 rfl rfl rfl rfl rfl ?_
        repeat' first | ((refine AW.rounds 5 ?_; conv => whnf)) | ((refine And.intro (⟨by decide, by first | decide | (simp [Tm.rows]; done) | (simp [Tm.rows]; decide)⟩ : _ ∧ _) ?_; conv => whnf)) | ((intro row hrow; obtain rfl := Option.some.inj hrow; conv => whnf)) | refine AW.seq ?_ | refine AW.block ?_ | (refine (id : AW _ _ _ (.region 7 _ true) _ _ → _) ?_; refine AW.draw (id := 7) tab_ok mixed [0, 1, 2, 3] (by kernel_rfl) ?_; conv => whnf) | (refine (id : AW _ _ _ (.region 18 _ true) _ _ → _) ?_; refine AW.draw (id := 18) tab_ok mixed [0, 1, 3, 2, 4, 5] (by kernel_rfl) ?_; conv => whnf) | (refine (id : AW _ _ _ (.region 25 _ true) _ _ → _) ?_; refine AW.drawT (id := 25) tab_ok mixed [0, 1, 2, 3, 5, 4, 6, 7, 8, 9, 10] oTPr4_64_25 (by kernel_rfl) ?_; conv => whnf) | (refine Fork.mk ?_ ?_ <;> conv => whnf) | ((first | refine AW.region tab_ok ?_ | refine AW.cond ?_ | refine AW.skip ?_ | refine AW.ret ?_ | refine AW.exit ?_); conv => whnf) | ((first | refine (c0).mono ?_ | refine (c1).mono ?_ | refine (d0).mono ?_ | refine (d1).mono ?_ | refine (fl _).mono ?_); rintro _ _ ⟨rfl, rfl⟩; conv => whnf) | ((first | refine And.intro (@rfl Val _) ?_ | refine And.intro (by decide) ?_ | refine cs (fun _ => ?_) (fun _ => ?_)) <;> conv => whnf)
        all_goals exact ⟨rfl, rfl⟩)
    · have hr : othM 6 name (Ty.node tk tks) place [((Ty.node a0 s0), ⟨0, x0, w0⟩), ((Ty.node a1 s1), ⟨e1, x1, w1⟩)] = (unk, ⟨e1, x1, w1⟩) := by simp [othM, firstF, h1]
      rw [hr]
      refine ACall.body tab_ok (ρ := 0) (N := 149) Tryz.func64 rfl rfl rfl rfl rfl ?_
      repeat' first | ((refine AW.rounds 5 ?_; conv => whnf)) | ((refine And.intro (⟨by decide, by first | decide | (simp [Tm.rows]; done) | (simp [Tm.rows]; decide)⟩ : _ ∧ _) ?_; conv => whnf)) | ((intro row hrow; obtain rfl := Option.some.inj hrow; conv => whnf)) | ((refine cs (fun _ => ?_) (fun g => absurd g (by simpa using h1)); conv => whnf)) | refine AW.seq ?_ | refine AW.block ?_ | (refine (id : AW _ _ _ (.region 7 _ true) _ _ → _) ?_; refine AW.draw (id := 7) tab_ok mixed [0, 1, 2, 3] (by kernel_rfl) ?_; conv => whnf) | (refine (id : AW _ _ _ (.region 18 _ true) _ _ → _) ?_; refine AW.draw (id := 18) tab_ok mixed [0, 1, 3, 2, 4, 5] (by kernel_rfl) ?_; conv => whnf) | (refine (id : AW _ _ _ (.region 25 _ true) _ _ → _) ?_; refine AW.drawT (id := 25) tab_ok mixed [0, 1, 2, 3, 5, 4, 6, 7, 8, 9, 10] oTPr4_64_25 (by kernel_rfl) ?_; conv => whnf) | (refine Fork.mk ?_ ?_ <;> conv => whnf) | ((first | refine AW.region tab_ok ?_ | refine AW.cond ?_ | refine AW.skip ?_ | refine AW.ret ?_ | refine AW.exit ?_); conv => whnf) | ((first | refine (c0).mono ?_ | refine (c1).mono ?_); rintro _ _ ⟨rfl, rfl⟩; conv => whnf) | ((first | refine And.intro (@rfl Val _) ?_ | refine And.intro (by decide) ?_ | refine cs (fun _ => ?_) (fun _ => ?_)) <;> conv => whnf)
      all_goals exact ⟨rfl, rfl⟩
  · have hr : othM 6 name (Ty.node tk tks) place [((Ty.node a0 s0), ⟨e0, x0, w0⟩), ((Ty.node a1 s1), ⟨e1, x1, w1⟩)] = (unk, ⟨e0, x0, w0⟩) := by simp [othM, firstF, h0]
    rw [hr]
    refine ACall.body tab_ok (ρ := 0) (N := 149) Tryz.func64 rfl rfl rfl rfl rfl ?_
    repeat' first | ((refine AW.rounds 5 ?_; conv => whnf)) | ((refine And.intro (⟨by decide, by first | decide | (simp [Tm.rows]; done) | (simp [Tm.rows]; decide)⟩ : _ ∧ _) ?_; conv => whnf)) | ((intro row hrow; obtain rfl := Option.some.inj hrow; conv => whnf)) | ((refine cs (fun _ => ?_) (fun g => absurd g (by simpa using h0)); conv => whnf)) | refine AW.seq ?_ | refine AW.block ?_ | (refine (id : AW _ _ _ (.region 7 _ true) _ _ → _) ?_; refine AW.draw (id := 7) tab_ok mixed [0, 1, 2, 3] (by kernel_rfl) ?_; conv => whnf) | (refine (id : AW _ _ _ (.region 18 _ true) _ _ → _) ?_; refine AW.draw (id := 18) tab_ok mixed [0, 1, 3, 2, 4, 5] (by kernel_rfl) ?_; conv => whnf) | (refine (id : AW _ _ _ (.region 25 _ true) _ _ → _) ?_; refine AW.drawT (id := 25) tab_ok mixed [0, 1, 2, 3, 5, 4, 6, 7, 8, 9, 10] oTPr4_64_25 (by kernel_rfl) ?_; conv => whnf) | (refine Fork.mk ?_ ?_ <;> conv => whnf) | ((first | refine AW.region tab_ok ?_ | refine AW.cond ?_ | refine AW.skip ?_ | refine AW.ret ?_ | refine AW.exit ?_); conv => whnf) | ((first | refine (c0).mono ?_ | refine (c1).mono ?_); rintro _ _ ⟨rfl, rfl⟩; conv => whnf) | ((first | refine And.intro (@rfl Val _) ?_ | refine And.intro (by decide) ?_ | refine cs (fun _ => ?_) (fun _ => ?_)) <;> conv => whnf)
    all_goals exact ⟨rfl, rfl⟩
set_option maxRecDepth 10000 in
set_option maxHeartbeats 4000000 in
theorem oth8 (name arg : ByteArray) (num tk : Int) (tks : List Ty) (uk : Int) (uks : List Ty) (label place : Int) (l : List Bd) (t0 t1 t2 : Tm) (q0 q1 q2 : Ty × Flt)
    (c0 : ACall Tryz.prog 23 [t0.val, .c (.d (.sl 0 3 (bds l))), .c (.d (.int .i64 0))] [] (fun o σ => o = rV q0 ∧ σ = []))
    (c1 : ACall Tryz.prog 23 [t1.val, .c (.d (.sl 0 3 (bds l))), .c (.d (.int .i64 0))] [] (fun o σ => o = rV q1 ∧ σ = []))
    (c2 : ACall Tryz.prog 23 [t2.val, .c (.d (.sl 0 3 (bds l))), .c (.d (.int .i64 0))] [] (fun o σ => o = rV q2 ∧ σ = []))
    : ACall Tryz.prog 64 [(Tm.node 8 name arg num tk tks uk uks label place [t0, t1, t2]).val, .c (.d (.sl 0 3 (bds l))), .c (.d (.int .i64 0))] [] (fun o σ => o = rV (othM 8 name (.node tk tks) place [q0, q1, q2]) ∧ σ = []) := by
  have fl := fun e => Rfail_call e 8 name arg num tk tks uk uks label place [t0, t1, t2]
  have fi := fun a => Rfine_call a 8 name arg num tk tks uk uks label place [t0, t1, t2]
  obtain ⟨k0, n0, g0, m0, tk0, ts0, uk0, us0, b0, p0, ks0⟩ := t0
  obtain ⟨k1, n1, g1, m1, tk1, ts1, uk1, us1, b1, p1, ks1⟩ := t1
  obtain ⟨k2, n2, g2, m2, tk2, ts2, uk2, us2, b2, p2, ks2⟩ := t2
  obtain ⟨⟨a0, s0⟩, ⟨e0, x0, w0⟩⟩ := q0
  obtain ⟨⟨a1, s1⟩, ⟨e1, x1, w1⟩⟩ := q1
  obtain ⟨⟨a2, s2⟩, ⟨e2, x2, w2⟩⟩ := q2
  by_cases h0 : e0 = 0
  · subst h0
    by_cases h1 : e1 = 0
    · subst h1
      by_cases h2 : e2 = 0
      · subst h2
        have d0 := RSimple_call 2
        have d1 := Ragrees_call (Ty.node a0 s0) (.node 2 [])
        have d2 := Rmeets_call (Ty.node a1 s1) (Ty.node a2 s2)
        have d3 := fi (MeetS (Ty.node a1 s1) (Ty.node a2 s2))
        have hr : othM 8 name (Ty.node tk tks) place [((Ty.node a0 s0), ⟨0, x0, w0⟩), ((Ty.node a1 s1), ⟨0, x1, w1⟩), ((Ty.node a2 s2), ⟨0, x2, w2⟩)] = restM 8 name (Ty.node tk tks) place [(Ty.node a0 s0), (Ty.node a1 s1), (Ty.node a2 s2)] := rfl
        rw [hr]
        simp only [restM, List.getD_cons_zero, List.getD_cons_succ, List.getD_nil]
        clear hr
        generalize agreeS (Ty.node a0 s0) (.node 2 []) = z0 at *
        generalize agreeS (Ty.node a1 s1) (Ty.node a2 s2) = z1 at *
        generalize fineM (MeetS (Ty.node a1 s1) (Ty.node a2 s2)) place = z2 at *
        obtain ⟨⟨z2k, z2s⟩, ⟨z2e, z2p, z2w⟩⟩ := z2
        generalize MeetS (Ty.node a1 s1) (Ty.node a2 s2) = z3 at *
        obtain ⟨z3k, z3s⟩ := z3
        cases z0 <;> cases z1
        all_goals (
          refine ACall.body tab_ok (ρ := 0) (N := 149) Tryz.func64 rfl rfl rfl rfl rfl ?_
          repeat' first | ((refine AW.rounds 5 ?_; conv => whnf)) | ((refine And.intro (⟨by decide, by first | decide | (simp [Tm.rows]; done) | (simp [Tm.rows]; decide)⟩ : _ ∧ _) ?_; conv => whnf)) | ((intro row hrow; obtain rfl := Option.some.inj hrow; conv => whnf)) | refine AW.seq ?_ | refine AW.block ?_ | (refine (id : AW _ _ _ (.region 7 _ true) _ _ → _) ?_; refine AW.draw (id := 7) tab_ok mixed [0, 1, 2, 3] (by kernel_rfl) ?_; conv => whnf) | (refine (id : AW _ _ _ (.region 18 _ true) _ _ → _) ?_; refine AW.draw (id := 18) tab_ok mixed [0, 1, 3, 2, 4, 5] (by kernel_rfl) ?_; conv => whnf) | (refine (id : AW _ _ _ (.region 25 _ true) _ _ → _) ?_; refine AW.drawT (id := 25) tab_ok mixed [0, 1, 2, 3, 5, 4, 6, 7, 8, 9, 10] oTPr4_64_25 (by kernel_rfl) ?_; conv => whnf) | (refine Fork.mk ?_ ?_ <;> conv => whnf) | ((first | refine AW.region tab_ok ?_ | refine AW.cond ?_ | refine AW.skip ?_ | refine AW.ret ?_ | refine AW.exit ?_); conv => whnf) | ((first | refine (c0).mono ?_ | refine (c1).mono ?_ | refine (c2).mono ?_ | refine (d0).mono ?_ | refine (d1).mono ?_ | refine (d2).mono ?_ | refine (d3).mono ?_ | refine (fl _).mono ?_); rintro _ _ ⟨rfl, rfl⟩; conv => whnf) | ((first | refine And.intro (@rfl Val _) ?_ | refine And.intro (by decide) ?_ | refine cs (fun _ => ?_) (fun _ => ?_)) <;> conv => whnf)
          all_goals exact ⟨rfl, rfl⟩)
      · have hr : othM 8 name (Ty.node tk tks) place [((Ty.node a0 s0), ⟨0, x0, w0⟩), ((Ty.node a1 s1), ⟨0, x1, w1⟩), ((Ty.node a2 s2), ⟨e2, x2, w2⟩)] = (unk, ⟨e2, x2, w2⟩) := by simp [othM, firstF, h2]
        rw [hr]
        refine ACall.body tab_ok (ρ := 0) (N := 149) Tryz.func64 rfl rfl rfl rfl rfl ?_
        repeat' first | ((refine AW.rounds 5 ?_; conv => whnf)) | ((refine And.intro (⟨by decide, by first | decide | (simp [Tm.rows]; done) | (simp [Tm.rows]; decide)⟩ : _ ∧ _) ?_; conv => whnf)) | ((intro row hrow; obtain rfl := Option.some.inj hrow; conv => whnf)) | ((refine cs (fun _ => ?_) (fun g => absurd g (by simpa using h2)); conv => whnf)) | refine AW.seq ?_ | refine AW.block ?_ | (refine (id : AW _ _ _ (.region 7 _ true) _ _ → _) ?_; refine AW.draw (id := 7) tab_ok mixed [0, 1, 2, 3] (by kernel_rfl) ?_; conv => whnf) | (refine (id : AW _ _ _ (.region 18 _ true) _ _ → _) ?_; refine AW.draw (id := 18) tab_ok mixed [0, 1, 3, 2, 4, 5] (by kernel_rfl) ?_; conv => whnf) | (refine (id : AW _ _ _ (.region 25 _ true) _ _ → _) ?_; refine AW.drawT (id := 25) tab_ok mixed [0, 1, 2, 3, 5, 4, 6, 7, 8, 9, 10] oTPr4_64_25 (by kernel_rfl) ?_; conv => whnf) | (refine Fork.mk ?_ ?_ <;> conv => whnf) | ((first | refine AW.region tab_ok ?_ | refine AW.cond ?_ | refine AW.skip ?_ | refine AW.ret ?_ | refine AW.exit ?_); conv => whnf) | ((first | refine (c0).mono ?_ | refine (c1).mono ?_ | refine (c2).mono ?_); rintro _ _ ⟨rfl, rfl⟩; conv => whnf) | ((first | refine And.intro (@rfl Val _) ?_ | refine And.intro (by decide) ?_ | refine cs (fun _ => ?_) (fun _ => ?_)) <;> conv => whnf)
        all_goals exact ⟨rfl, rfl⟩
    · have hr : othM 8 name (Ty.node tk tks) place [((Ty.node a0 s0), ⟨0, x0, w0⟩), ((Ty.node a1 s1), ⟨e1, x1, w1⟩), ((Ty.node a2 s2), ⟨e2, x2, w2⟩)] = (unk, ⟨e1, x1, w1⟩) := by simp [othM, firstF, h1]
      rw [hr]
      refine ACall.body tab_ok (ρ := 0) (N := 149) Tryz.func64 rfl rfl rfl rfl rfl ?_
      repeat' first | ((refine AW.rounds 5 ?_; conv => whnf)) | ((refine And.intro (⟨by decide, by first | decide | (simp [Tm.rows]; done) | (simp [Tm.rows]; decide)⟩ : _ ∧ _) ?_; conv => whnf)) | ((intro row hrow; obtain rfl := Option.some.inj hrow; conv => whnf)) | ((refine cs (fun _ => ?_) (fun g => absurd g (by simpa using h1)); conv => whnf)) | refine AW.seq ?_ | refine AW.block ?_ | (refine (id : AW _ _ _ (.region 7 _ true) _ _ → _) ?_; refine AW.draw (id := 7) tab_ok mixed [0, 1, 2, 3] (by kernel_rfl) ?_; conv => whnf) | (refine (id : AW _ _ _ (.region 18 _ true) _ _ → _) ?_; refine AW.draw (id := 18) tab_ok mixed [0, 1, 3, 2, 4, 5] (by kernel_rfl) ?_; conv => whnf) | (refine (id : AW _ _ _ (.region 25 _ true) _ _ → _) ?_; refine AW.drawT (id := 25) tab_ok mixed [0, 1, 2, 3, 5, 4, 6, 7, 8, 9, 10] oTPr4_64_25 (by kernel_rfl) ?_; conv => whnf) | (refine Fork.mk ?_ ?_ <;> conv => whnf) | ((first | refine AW.region tab_ok ?_ | refine AW.cond ?_ | refine AW.skip ?_ | refine AW.ret ?_ | refine AW.exit ?_); conv => whnf) | ((first | refine (c0).mono ?_ | refine (c1).mono ?_ | refine (c2).mono ?_); rintro _ _ ⟨rfl, rfl⟩; conv => whnf) | ((first | refine And.intro (@rfl Val _) ?_ | refine And.intro (by decide) ?_ | refine cs (fun _ => ?_) (fun _ => ?_)) <;> conv => whnf)
      all_goals exact ⟨rfl, rfl⟩
  · have hr : othM 8 name (Ty.node tk tks) place [((Ty.node a0 s0), ⟨e0, x0, w0⟩), ((Ty.node a1 s1), ⟨e1, x1, w1⟩), ((Ty.node a2 s2), ⟨e2, x2, w2⟩)] = (unk, ⟨e0, x0, w0⟩) := by simp [othM, firstF, h0]
    rw [hr]
    refine ACall.body tab_ok (ρ := 0) (N := 149) Tryz.func64 rfl rfl rfl rfl rfl ?_
    repeat' first | ((refine AW.rounds 5 ?_; conv => whnf)) | ((refine And.intro (⟨by decide, by first | decide | (simp [Tm.rows]; done) | (simp [Tm.rows]; decide)⟩ : _ ∧ _) ?_; conv => whnf)) | ((intro row hrow; obtain rfl := Option.some.inj hrow; conv => whnf)) | ((refine cs (fun _ => ?_) (fun g => absurd g (by simpa using h0)); conv => whnf)) | refine AW.seq ?_ | refine AW.block ?_ | (refine (id : AW _ _ _ (.region 7 _ true) _ _ → _) ?_; refine AW.draw (id := 7) tab_ok mixed [0, 1, 2, 3] (by kernel_rfl) ?_; conv => whnf) | (refine (id : AW _ _ _ (.region 18 _ true) _ _ → _) ?_; refine AW.draw (id := 18) tab_ok mixed [0, 1, 3, 2, 4, 5] (by kernel_rfl) ?_; conv => whnf) | (refine (id : AW _ _ _ (.region 25 _ true) _ _ → _) ?_; refine AW.drawT (id := 25) tab_ok mixed [0, 1, 2, 3, 5, 4, 6, 7, 8, 9, 10] oTPr4_64_25 (by kernel_rfl) ?_; conv => whnf) | (refine Fork.mk ?_ ?_ <;> conv => whnf) | ((first | refine AW.region tab_ok ?_ | refine AW.cond ?_ | refine AW.skip ?_ | refine AW.ret ?_ | refine AW.exit ?_); conv => whnf) | ((first | refine (c0).mono ?_ | refine (c1).mono ?_ | refine (c2).mono ?_); rintro _ _ ⟨rfl, rfl⟩; conv => whnf) | ((first | refine And.intro (@rfl Val _) ?_ | refine And.intro (by decide) ?_ | refine cs (fun _ => ?_) (fun _ => ?_)) <;> conv => whnf)
    all_goals exact ⟨rfl, rfl⟩
set_option maxRecDepth 10000 in
set_option maxHeartbeats 4000000 in
theorem oth9 (name arg : ByteArray) (num tk : Int) (tks : List Ty) (uk : Int) (uks : List Ty) (label place : Int) (l : List Bd) (t0 t1 : Tm) (q0 q1 : Ty × Flt)
    (c0 : ACall Tryz.prog 23 [t0.val, .c (.d (.sl 0 3 (bds l))), .c (.d (.int .i64 0))] [] (fun o σ => o = rV q0 ∧ σ = []))
    (c1 : ACall Tryz.prog 23 [t1.val, .c (.d (.sl 0 3 (bds l))), .c (.d (.int .i64 0))] [] (fun o σ => o = rV q1 ∧ σ = []))
    : ACall Tryz.prog 64 [(Tm.node 9 name arg num tk tks uk uks label place [t0, t1]).val, .c (.d (.sl 0 3 (bds l))), .c (.d (.int .i64 0))] [] (fun o σ => o = rV (othM 9 name (.node tk tks) place [q0, q1]) ∧ σ = []) := by
  have fl := fun e => Rfail_call e 9 name arg num tk tks uk uks label place [t0, t1]
  have fi := fun a => Rfine_call a 9 name arg num tk tks uk uks label place [t0, t1]
  obtain ⟨k0, n0, g0, m0, tk0, ts0, uk0, us0, b0, p0, ks0⟩ := t0
  obtain ⟨k1, n1, g1, m1, tk1, ts1, uk1, us1, b1, p1, ks1⟩ := t1
  obtain ⟨⟨a0, s0⟩, ⟨e0, x0, w0⟩⟩ := q0
  obtain ⟨⟨a1, s1⟩, ⟨e1, x1, w1⟩⟩ := q1
  by_cases h0 : e0 = 0
  · subst h0
    by_cases h1 : e1 = 0
    · subst h1
      have d0 := RMake_call 4 (Ty.node a0 s0) (Ty.node a1 s1)
      have d1 := fi (.node 4 [(Ty.node a0 s0), (Ty.node a1 s1)])
      have hr : othM 9 name (Ty.node tk tks) place [((Ty.node a0 s0), ⟨0, x0, w0⟩), ((Ty.node a1 s1), ⟨0, x1, w1⟩)] = restM 9 name (Ty.node tk tks) place [(Ty.node a0 s0), (Ty.node a1 s1)] := rfl
      rw [hr]
      simp only [restM, List.getD_cons_zero, List.getD_cons_succ, List.getD_nil]
      clear hr
      generalize fineM (.node 4 [(Ty.node a0 s0), (Ty.node a1 s1)]) place = z0 at *
      obtain ⟨⟨z0k, z0s⟩, ⟨z0e, z0p, z0w⟩⟩ := z0
      refine ACall.body tab_ok (ρ := 0) (N := 149) Tryz.func64 rfl rfl rfl rfl rfl ?_
      repeat' first | ((refine AW.rounds 5 ?_; conv => whnf)) | ((refine And.intro (⟨by decide, by first | decide | (simp [Tm.rows]; done) | (simp [Tm.rows]; decide)⟩ : _ ∧ _) ?_; conv => whnf)) | ((intro row hrow; obtain rfl := Option.some.inj hrow; conv => whnf)) | refine AW.seq ?_ | refine AW.block ?_ | (refine (id : AW _ _ _ (.region 7 _ true) _ _ → _) ?_; refine AW.draw (id := 7) tab_ok mixed [0, 1, 2, 3] (by kernel_rfl) ?_; conv => whnf) | (refine (id : AW _ _ _ (.region 18 _ true) _ _ → _) ?_; refine AW.draw (id := 18) tab_ok mixed [0, 1, 3, 2, 4, 5] (by kernel_rfl) ?_; conv => whnf) | (refine (id : AW _ _ _ (.region 25 _ true) _ _ → _) ?_; refine AW.drawT (id := 25) tab_ok mixed [0, 1, 2, 3, 5, 4, 6, 7, 8, 9, 10] oTPr4_64_25 (by kernel_rfl) ?_; conv => whnf) | (refine Fork.mk ?_ ?_ <;> conv => whnf) | ((first | refine AW.region tab_ok ?_ | refine AW.cond ?_ | refine AW.skip ?_ | refine AW.ret ?_ | refine AW.exit ?_); conv => whnf) | ((first | refine (c0).mono ?_ | refine (c1).mono ?_ | refine (d0).mono ?_ | refine (d1).mono ?_); rintro _ _ ⟨rfl, rfl⟩; conv => whnf) | ((first | refine And.intro (@rfl Val _) ?_ | refine And.intro (by decide) ?_ | refine cs (fun _ => ?_) (fun _ => ?_)) <;> conv => whnf)
      all_goals exact ⟨rfl, rfl⟩
    · have hr : othM 9 name (Ty.node tk tks) place [((Ty.node a0 s0), ⟨0, x0, w0⟩), ((Ty.node a1 s1), ⟨e1, x1, w1⟩)] = (unk, ⟨e1, x1, w1⟩) := by simp [othM, firstF, h1]
      rw [hr]
      refine ACall.body tab_ok (ρ := 0) (N := 149) Tryz.func64 rfl rfl rfl rfl rfl ?_
      repeat' first | ((refine AW.rounds 5 ?_; conv => whnf)) | ((refine And.intro (⟨by decide, by first | decide | (simp [Tm.rows]; done) | (simp [Tm.rows]; decide)⟩ : _ ∧ _) ?_; conv => whnf)) | ((intro row hrow; obtain rfl := Option.some.inj hrow; conv => whnf)) | ((refine cs (fun _ => ?_) (fun g => absurd g (by simpa using h1)); conv => whnf)) | refine AW.seq ?_ | refine AW.block ?_ | (refine (id : AW _ _ _ (.region 7 _ true) _ _ → _) ?_; refine AW.draw (id := 7) tab_ok mixed [0, 1, 2, 3] (by kernel_rfl) ?_; conv => whnf) | (refine (id : AW _ _ _ (.region 18 _ true) _ _ → _) ?_; refine AW.draw (id := 18) tab_ok mixed [0, 1, 3, 2, 4, 5] (by kernel_rfl) ?_; conv => whnf) | (refine (id : AW _ _ _ (.region 25 _ true) _ _ → _) ?_; refine AW.drawT (id := 25) tab_ok mixed [0, 1, 2, 3, 5, 4, 6, 7, 8, 9, 10] oTPr4_64_25 (by kernel_rfl) ?_; conv => whnf) | (refine Fork.mk ?_ ?_ <;> conv => whnf) | ((first | refine AW.region tab_ok ?_ | refine AW.cond ?_ | refine AW.skip ?_ | refine AW.ret ?_ | refine AW.exit ?_); conv => whnf) | ((first | refine (c0).mono ?_ | refine (c1).mono ?_); rintro _ _ ⟨rfl, rfl⟩; conv => whnf) | ((first | refine And.intro (@rfl Val _) ?_ | refine And.intro (by decide) ?_ | refine cs (fun _ => ?_) (fun _ => ?_)) <;> conv => whnf)
      all_goals exact ⟨rfl, rfl⟩
  · have hr : othM 9 name (Ty.node tk tks) place [((Ty.node a0 s0), ⟨e0, x0, w0⟩), ((Ty.node a1 s1), ⟨e1, x1, w1⟩)] = (unk, ⟨e0, x0, w0⟩) := by simp [othM, firstF, h0]
    rw [hr]
    refine ACall.body tab_ok (ρ := 0) (N := 149) Tryz.func64 rfl rfl rfl rfl rfl ?_
    repeat' first | ((refine AW.rounds 5 ?_; conv => whnf)) | ((refine And.intro (⟨by decide, by first | decide | (simp [Tm.rows]; done) | (simp [Tm.rows]; decide)⟩ : _ ∧ _) ?_; conv => whnf)) | ((intro row hrow; obtain rfl := Option.some.inj hrow; conv => whnf)) | ((refine cs (fun _ => ?_) (fun g => absurd g (by simpa using h0)); conv => whnf)) | refine AW.seq ?_ | refine AW.block ?_ | (refine (id : AW _ _ _ (.region 7 _ true) _ _ → _) ?_; refine AW.draw (id := 7) tab_ok mixed [0, 1, 2, 3] (by kernel_rfl) ?_; conv => whnf) | (refine (id : AW _ _ _ (.region 18 _ true) _ _ → _) ?_; refine AW.draw (id := 18) tab_ok mixed [0, 1, 3, 2, 4, 5] (by kernel_rfl) ?_; conv => whnf) | (refine (id : AW _ _ _ (.region 25 _ true) _ _ → _) ?_; refine AW.drawT (id := 25) tab_ok mixed [0, 1, 2, 3, 5, 4, 6, 7, 8, 9, 10] oTPr4_64_25 (by kernel_rfl) ?_; conv => whnf) | (refine Fork.mk ?_ ?_ <;> conv => whnf) | ((first | refine AW.region tab_ok ?_ | refine AW.cond ?_ | refine AW.skip ?_ | refine AW.ret ?_ | refine AW.exit ?_); conv => whnf) | ((first | refine (c0).mono ?_ | refine (c1).mono ?_); rintro _ _ ⟨rfl, rfl⟩; conv => whnf) | ((first | refine And.intro (@rfl Val _) ?_ | refine And.intro (by decide) ?_ | refine cs (fun _ => ?_) (fun _ => ?_)) <;> conv => whnf)
    all_goals exact ⟨rfl, rfl⟩
set_option maxRecDepth 10000 in
set_option maxHeartbeats 4000000 in
theorem oth10 (name arg : ByteArray) (num tk : Int) (tks : List Ty) (uk : Int) (uks : List Ty) (label place : Int) (l : List Bd) (t0 : Tm) (q0 : Ty × Flt)
    (c0 : ACall Tryz.prog 23 [t0.val, .c (.d (.sl 0 3 (bds l))), .c (.d (.int .i64 0))] [] (fun o σ => o = rV q0 ∧ σ = []))
    : ACall Tryz.prog 64 [(Tm.node 10 name arg num tk tks uk uks label place [t0]).val, .c (.d (.sl 0 3 (bds l))), .c (.d (.int .i64 0))] [] (fun o σ => o = rV (othM 10 name (.node tk tks) place [q0]) ∧ σ = []) := by
  have fl := fun e => Rfail_call e 10 name arg num tk tks uk uks label place [t0]
  have fi := fun a => Rfine_call a 10 name arg num tk tks uk uks label place [t0]
  obtain ⟨k0, n0, g0, m0, tk0, ts0, uk0, us0, b0, p0, ks0⟩ := t0
  obtain ⟨⟨a0, s0⟩, ⟨e0, x0, w0⟩⟩ := q0
  by_cases h0 : e0 = 0
  · subst h0
    have d0 := Rmatches_call 4 (by simp) (Ty.node a0 s0)
    have hr : othM 10 name (Ty.node tk tks) place [((Ty.node a0 s0), ⟨0, x0, w0⟩)] = restM 10 name (Ty.node tk tks) place [(Ty.node a0 s0)] := rfl
    rw [hr]
    simp only [restM, List.getD_cons_zero, List.getD_cons_succ, List.getD_nil]
    clear hr
    generalize asB 4 (Ty.node a0 s0) = z0 at *
    generalize asL 4 (Ty.node a0 s0) = z1 at *
    obtain ⟨z1k, z1s⟩ := z1
    generalize asR 4 (Ty.node a0 s0) = z2 at *
    obtain ⟨z2k, z2s⟩ := z2
    cases z0
    all_goals (
      refine ACall.body tab_ok (ρ := 0) (N := 149) Tryz.func64 rfl rfl rfl rfl rfl ?_
      repeat' first | ((refine AW.rounds 5 ?_; conv => whnf)) | ((refine And.intro (⟨by decide, by first | decide | (simp [Tm.rows]; done) | (simp [Tm.rows]; decide)⟩ : _ ∧ _) ?_; conv => whnf)) | ((intro row hrow; obtain rfl := Option.some.inj hrow; conv => whnf)) | refine AW.seq ?_ | refine AW.block ?_ | (refine (id : AW _ _ _ (.region 7 _ true) _ _ → _) ?_; refine AW.draw (id := 7) tab_ok mixed [0, 1, 2, 3] (by kernel_rfl) ?_; conv => whnf) | (refine (id : AW _ _ _ (.region 18 _ true) _ _ → _) ?_; refine AW.draw (id := 18) tab_ok mixed [0, 1, 3, 2, 4, 5] (by kernel_rfl) ?_; conv => whnf) | (refine (id : AW _ _ _ (.region 25 _ true) _ _ → _) ?_; refine AW.drawT (id := 25) tab_ok mixed [0, 1, 2, 3, 5, 4, 6, 7, 8, 9, 10] oTPr4_64_25 (by kernel_rfl) ?_; conv => whnf) | (refine Fork.mk ?_ ?_ <;> conv => whnf) | ((first | refine AW.region tab_ok ?_ | refine AW.cond ?_ | refine AW.skip ?_ | refine AW.ret ?_ | refine AW.exit ?_); conv => whnf) | ((first | refine (c0).mono ?_ | refine (d0).mono ?_ | refine (fl _).mono ?_); rintro _ _ ⟨rfl, rfl⟩; conv => whnf) | ((first | refine And.intro (@rfl Val _) ?_ | refine And.intro (by decide) ?_ | refine cs (fun _ => ?_) (fun _ => ?_)) <;> conv => whnf)
      all_goals exact ⟨rfl, rfl⟩)
  · have hr : othM 10 name (Ty.node tk tks) place [((Ty.node a0 s0), ⟨e0, x0, w0⟩)] = (unk, ⟨e0, x0, w0⟩) := by simp [othM, firstF, h0]
    rw [hr]
    refine ACall.body tab_ok (ρ := 0) (N := 149) Tryz.func64 rfl rfl rfl rfl rfl ?_
    repeat' first | ((refine AW.rounds 5 ?_; conv => whnf)) | ((refine And.intro (⟨by decide, by first | decide | (simp [Tm.rows]; done) | (simp [Tm.rows]; decide)⟩ : _ ∧ _) ?_; conv => whnf)) | ((intro row hrow; obtain rfl := Option.some.inj hrow; conv => whnf)) | ((refine cs (fun _ => ?_) (fun g => absurd g (by simpa using h0)); conv => whnf)) | refine AW.seq ?_ | refine AW.block ?_ | (refine (id : AW _ _ _ (.region 7 _ true) _ _ → _) ?_; refine AW.draw (id := 7) tab_ok mixed [0, 1, 2, 3] (by kernel_rfl) ?_; conv => whnf) | (refine (id : AW _ _ _ (.region 18 _ true) _ _ → _) ?_; refine AW.draw (id := 18) tab_ok mixed [0, 1, 3, 2, 4, 5] (by kernel_rfl) ?_; conv => whnf) | (refine (id : AW _ _ _ (.region 25 _ true) _ _ → _) ?_; refine AW.drawT (id := 25) tab_ok mixed [0, 1, 2, 3, 5, 4, 6, 7, 8, 9, 10] oTPr4_64_25 (by kernel_rfl) ?_; conv => whnf) | (refine Fork.mk ?_ ?_ <;> conv => whnf) | ((first | refine AW.region tab_ok ?_ | refine AW.cond ?_ | refine AW.skip ?_ | refine AW.ret ?_ | refine AW.exit ?_); conv => whnf) | (refine (c0).mono ?_; rintro _ _ ⟨rfl, rfl⟩; conv => whnf) | ((first | refine And.intro (@rfl Val _) ?_ | refine And.intro (by decide) ?_ | refine cs (fun _ => ?_) (fun _ => ?_)) <;> conv => whnf)
    all_goals exact ⟨rfl, rfl⟩
set_option maxRecDepth 10000 in
set_option maxHeartbeats 4000000 in
theorem oth11 (name arg : ByteArray) (num tk : Int) (tks : List Ty) (uk : Int) (uks : List Ty) (label place : Int) (l : List Bd) (t0 : Tm) (q0 : Ty × Flt)
    (c0 : ACall Tryz.prog 23 [t0.val, .c (.d (.sl 0 3 (bds l))), .c (.d (.int .i64 0))] [] (fun o σ => o = rV q0 ∧ σ = []))
    : ACall Tryz.prog 64 [(Tm.node 11 name arg num tk tks uk uks label place [t0]).val, .c (.d (.sl 0 3 (bds l))), .c (.d (.int .i64 0))] [] (fun o σ => o = rV (othM 11 name (.node tk tks) place [q0]) ∧ σ = []) := by
  have fl := fun e => Rfail_call e 11 name arg num tk tks uk uks label place [t0]
  have fi := fun a => Rfine_call a 11 name arg num tk tks uk uks label place [t0]
  obtain ⟨k0, n0, g0, m0, tk0, ts0, uk0, us0, b0, p0, ks0⟩ := t0
  obtain ⟨⟨a0, s0⟩, ⟨e0, x0, w0⟩⟩ := q0
  by_cases h0 : e0 = 0
  · subst h0
    have d0 := Rmatches_call 4 (by simp) (Ty.node a0 s0)
    have hr : othM 11 name (Ty.node tk tks) place [((Ty.node a0 s0), ⟨0, x0, w0⟩)] = restM 11 name (Ty.node tk tks) place [(Ty.node a0 s0)] := rfl
    rw [hr]
    simp only [restM, List.getD_cons_zero, List.getD_cons_succ, List.getD_nil]
    clear hr
    generalize asB 4 (Ty.node a0 s0) = z0 at *
    generalize asL 4 (Ty.node a0 s0) = z1 at *
    obtain ⟨z1k, z1s⟩ := z1
    generalize asR 4 (Ty.node a0 s0) = z2 at *
    obtain ⟨z2k, z2s⟩ := z2
    cases z0
    all_goals (
      refine ACall.body tab_ok (ρ := 0) (N := 149) Tryz.func64 rfl rfl rfl rfl rfl ?_
      repeat' first | ((refine AW.rounds 5 ?_; conv => whnf)) | ((refine And.intro (⟨by decide, by first | decide | (simp [Tm.rows]; done) | (simp [Tm.rows]; decide)⟩ : _ ∧ _) ?_; conv => whnf)) | ((intro row hrow; obtain rfl := Option.some.inj hrow; conv => whnf)) | refine AW.seq ?_ | refine AW.block ?_ | (refine (id : AW _ _ _ (.region 7 _ true) _ _ → _) ?_; refine AW.draw (id := 7) tab_ok mixed [0, 1, 2, 3] (by kernel_rfl) ?_; conv => whnf) | (refine (id : AW _ _ _ (.region 18 _ true) _ _ → _) ?_; refine AW.draw (id := 18) tab_ok mixed [0, 1, 3, 2, 4, 5] (by kernel_rfl) ?_; conv => whnf) | (refine (id : AW _ _ _ (.region 25 _ true) _ _ → _) ?_; refine AW.drawT (id := 25) tab_ok mixed [0, 1, 2, 3, 5, 4, 6, 7, 8, 9, 10] oTPr4_64_25 (by kernel_rfl) ?_; conv => whnf) | (refine Fork.mk ?_ ?_ <;> conv => whnf) | ((first | refine AW.region tab_ok ?_ | refine AW.cond ?_ | refine AW.skip ?_ | refine AW.ret ?_ | refine AW.exit ?_); conv => whnf) | ((first | refine (c0).mono ?_ | refine (d0).mono ?_ | refine (fl _).mono ?_); rintro _ _ ⟨rfl, rfl⟩; conv => whnf) | ((first | refine And.intro (@rfl Val _) ?_ | refine And.intro (by decide) ?_ | refine cs (fun _ => ?_) (fun _ => ?_)) <;> conv => whnf)
      all_goals exact ⟨rfl, rfl⟩)
  · have hr : othM 11 name (Ty.node tk tks) place [((Ty.node a0 s0), ⟨e0, x0, w0⟩)] = (unk, ⟨e0, x0, w0⟩) := by simp [othM, firstF, h0]
    rw [hr]
    refine ACall.body tab_ok (ρ := 0) (N := 149) Tryz.func64 rfl rfl rfl rfl rfl ?_
    repeat' first | ((refine AW.rounds 5 ?_; conv => whnf)) | ((refine And.intro (⟨by decide, by first | decide | (simp [Tm.rows]; done) | (simp [Tm.rows]; decide)⟩ : _ ∧ _) ?_; conv => whnf)) | ((intro row hrow; obtain rfl := Option.some.inj hrow; conv => whnf)) | ((refine cs (fun _ => ?_) (fun g => absurd g (by simpa using h0)); conv => whnf)) | refine AW.seq ?_ | refine AW.block ?_ | (refine (id : AW _ _ _ (.region 7 _ true) _ _ → _) ?_; refine AW.draw (id := 7) tab_ok mixed [0, 1, 2, 3] (by kernel_rfl) ?_; conv => whnf) | (refine (id : AW _ _ _ (.region 18 _ true) _ _ → _) ?_; refine AW.draw (id := 18) tab_ok mixed [0, 1, 3, 2, 4, 5] (by kernel_rfl) ?_; conv => whnf) | (refine (id : AW _ _ _ (.region 25 _ true) _ _ → _) ?_; refine AW.drawT (id := 25) tab_ok mixed [0, 1, 2, 3, 5, 4, 6, 7, 8, 9, 10] oTPr4_64_25 (by kernel_rfl) ?_; conv => whnf) | (refine Fork.mk ?_ ?_ <;> conv => whnf) | ((first | refine AW.region tab_ok ?_ | refine AW.cond ?_ | refine AW.skip ?_ | refine AW.ret ?_ | refine AW.exit ?_); conv => whnf) | (refine (c0).mono ?_; rintro _ _ ⟨rfl, rfl⟩; conv => whnf) | ((first | refine And.intro (@rfl Val _) ?_ | refine And.intro (by decide) ?_ | refine cs (fun _ => ?_) (fun _ => ?_)) <;> conv => whnf)
    all_goals exact ⟨rfl, rfl⟩
set_option maxRecDepth 10000 in
set_option maxHeartbeats 4000000 in
theorem oth12 (name arg : ByteArray) (num tk : Int) (tks : List Ty) (uk : Int) (uks : List Ty) (label place : Int) (l : List Bd) (t0 : Tm) (q0 : Ty × Flt)
    (c0 : ACall Tryz.prog 23 [t0.val, .c (.d (.sl 0 3 (bds l))), .c (.d (.int .i64 0))] [] (fun o σ => o = rV q0 ∧ σ = []))
    : ACall Tryz.prog 64 [(Tm.node 12 name arg num tk tks uk uks label place [t0]).val, .c (.d (.sl 0 3 (bds l))), .c (.d (.int .i64 0))] [] (fun o σ => o = rV (othM 12 name (.node tk tks) place [q0]) ∧ σ = []) := by
  have fl := fun e => Rfail_call e 12 name arg num tk tks uk uks label place [t0]
  have fi := fun a => Rfine_call a 12 name arg num tk tks uk uks label place [t0]
  obtain ⟨k0, n0, g0, m0, tk0, ts0, uk0, us0, b0, p0, ks0⟩ := t0
  obtain ⟨⟨a0, s0⟩, ⟨e0, x0, w0⟩⟩ := q0
  by_cases h0 : e0 = 0
  · subst h0
    have d0 := last12 name arg num tk tks uk uks label place ⟨k0, n0, g0, m0, tk0, ts0, uk0, us0, b0, p0, ks0⟩ (Ty.node a0 s0)
    have hr : othM 12 name (Ty.node tk tks) place [((Ty.node a0 s0), ⟨0, x0, w0⟩)] = restM 12 name (Ty.node tk tks) place [(Ty.node a0 s0)] := rfl
    rw [hr]
    simp only [restM, List.getD_cons_zero, List.getD_cons_succ, List.getD_nil]
    clear hr
    show ACall _ _ _ _ (fun o σ => o = rV (lastM 12 name (Ty.node tk tks) place (Ty.node a0 s0) unk) ∧ σ = [])
    generalize lastM 12 name (Ty.node tk tks) place (Ty.node a0 s0) unk = z0 at *
    obtain ⟨⟨z0k, z0s⟩, ⟨z0e, z0p, z0w⟩⟩ := z0
    refine ACall.body tab_ok (ρ := 0) (N := 149) Tryz.func64 rfl rfl rfl rfl rfl ?_
    repeat' first | ((refine AW.rounds 5 ?_; conv => whnf)) | ((refine And.intro (⟨by decide, by first | decide | (simp [Tm.rows]; done) | (simp [Tm.rows]; decide)⟩ : _ ∧ _) ?_; conv => whnf)) | ((intro row hrow; obtain rfl := Option.some.inj hrow; conv => whnf)) | refine AW.seq ?_ | refine AW.block ?_ | (refine (id : AW _ _ _ (.region 7 _ true) _ _ → _) ?_; refine AW.draw (id := 7) tab_ok mixed [0, 1, 2, 3] (by kernel_rfl) ?_; conv => whnf) | (refine (id : AW _ _ _ (.region 18 _ true) _ _ → _) ?_; refine AW.draw (id := 18) tab_ok mixed [0, 1, 3, 2, 4, 5] (by kernel_rfl) ?_; conv => whnf) | (refine (id : AW _ _ _ (.region 25 _ true) _ _ → _) ?_; refine AW.drawT (id := 25) tab_ok mixed [0, 1, 2, 3, 5, 4, 6, 7, 8, 9, 10] oTPr4_64_25 (by kernel_rfl) ?_; conv => whnf) | (refine Fork.mk ?_ ?_ <;> conv => whnf) | ((first | refine AW.region tab_ok ?_ | refine AW.cond ?_ | refine AW.skip ?_ | refine AW.ret ?_ | refine AW.exit ?_); conv => whnf) | ((first | refine (c0).mono ?_ | refine (d0).mono ?_); rintro _ _ ⟨rfl, rfl⟩; conv => whnf) | ((first | refine And.intro (@rfl Val _) ?_ | refine And.intro (by decide) ?_ | refine cs (fun _ => ?_) (fun _ => ?_)) <;> conv => whnf)
    all_goals exact ⟨rfl, rfl⟩
  · have hr : othM 12 name (Ty.node tk tks) place [((Ty.node a0 s0), ⟨e0, x0, w0⟩)] = (unk, ⟨e0, x0, w0⟩) := by simp [othM, firstF, h0]
    rw [hr]
    refine ACall.body tab_ok (ρ := 0) (N := 149) Tryz.func64 rfl rfl rfl rfl rfl ?_
    repeat' first | ((refine AW.rounds 5 ?_; conv => whnf)) | ((refine And.intro (⟨by decide, by first | decide | (simp [Tm.rows]; done) | (simp [Tm.rows]; decide)⟩ : _ ∧ _) ?_; conv => whnf)) | ((intro row hrow; obtain rfl := Option.some.inj hrow; conv => whnf)) | ((refine cs (fun _ => ?_) (fun g => absurd g (by simpa using h0)); conv => whnf)) | refine AW.seq ?_ | refine AW.block ?_ | (refine (id : AW _ _ _ (.region 7 _ true) _ _ → _) ?_; refine AW.draw (id := 7) tab_ok mixed [0, 1, 2, 3] (by kernel_rfl) ?_; conv => whnf) | (refine (id : AW _ _ _ (.region 18 _ true) _ _ → _) ?_; refine AW.draw (id := 18) tab_ok mixed [0, 1, 3, 2, 4, 5] (by kernel_rfl) ?_; conv => whnf) | (refine (id : AW _ _ _ (.region 25 _ true) _ _ → _) ?_; refine AW.drawT (id := 25) tab_ok mixed [0, 1, 2, 3, 5, 4, 6, 7, 8, 9, 10] oTPr4_64_25 (by kernel_rfl) ?_; conv => whnf) | (refine Fork.mk ?_ ?_ <;> conv => whnf) | ((first | refine AW.region tab_ok ?_ | refine AW.cond ?_ | refine AW.skip ?_ | refine AW.ret ?_ | refine AW.exit ?_); conv => whnf) | (refine (c0).mono ?_; rintro _ _ ⟨rfl, rfl⟩; conv => whnf) | ((first | refine And.intro (@rfl Val _) ?_ | refine And.intro (by decide) ?_ | refine cs (fun _ => ?_) (fun _ => ?_)) <;> conv => whnf)
    all_goals exact ⟨rfl, rfl⟩
set_option maxRecDepth 10000 in
set_option maxHeartbeats 4000000 in
theorem oth13 (name arg : ByteArray) (num tk : Int) (tks : List Ty) (uk : Int) (uks : List Ty) (label place : Int) (l : List Bd) (t0 : Tm) (q0 : Ty × Flt)
    (c0 : ACall Tryz.prog 23 [t0.val, .c (.d (.sl 0 3 (bds l))), .c (.d (.int .i64 0))] [] (fun o σ => o = rV q0 ∧ σ = []))
    : ACall Tryz.prog 64 [(Tm.node 13 name arg num tk tks uk uks label place [t0]).val, .c (.d (.sl 0 3 (bds l))), .c (.d (.int .i64 0))] [] (fun o σ => o = rV (othM 13 name (.node tk tks) place [q0]) ∧ σ = []) := by
  have fl := fun e => Rfail_call e 13 name arg num tk tks uk uks label place [t0]
  have fi := fun a => Rfine_call a 13 name arg num tk tks uk uks label place [t0]
  obtain ⟨k0, n0, g0, m0, tk0, ts0, uk0, us0, b0, p0, ks0⟩ := t0
  obtain ⟨⟨a0, s0⟩, ⟨e0, x0, w0⟩⟩ := q0
  by_cases h0 : e0 = 0
  · subst h0
    have d0 := last13 name arg num tk tks uk uks label place ⟨k0, n0, g0, m0, tk0, ts0, uk0, us0, b0, p0, ks0⟩ (Ty.node a0 s0)
    have hr : othM 13 name (Ty.node tk tks) place [((Ty.node a0 s0), ⟨0, x0, w0⟩)] = restM 13 name (Ty.node tk tks) place [(Ty.node a0 s0)] := rfl
    rw [hr]
    simp only [restM, List.getD_cons_zero, List.getD_cons_succ, List.getD_nil]
    clear hr
    show ACall _ _ _ _ (fun o σ => o = rV (lastM 13 name (Ty.node tk tks) place (Ty.node a0 s0) unk) ∧ σ = [])
    generalize lastM 13 name (Ty.node tk tks) place (Ty.node a0 s0) unk = z0 at *
    obtain ⟨⟨z0k, z0s⟩, ⟨z0e, z0p, z0w⟩⟩ := z0
    refine ACall.body tab_ok (ρ := 0) (N := 149) Tryz.func64 rfl rfl rfl rfl rfl ?_
    repeat' first | ((refine AW.rounds 5 ?_; conv => whnf)) | ((refine And.intro (⟨by decide, by first | decide | (simp [Tm.rows]; done) | (simp [Tm.rows]; decide)⟩ : _ ∧ _) ?_; conv => whnf)) | ((intro row hrow; obtain rfl := Option.some.inj hrow; conv => whnf)) | refine AW.seq ?_ | refine AW.block ?_ | (refine (id : AW _ _ _ (.region 7 _ true) _ _ → _) ?_; refine AW.draw (id := 7) tab_ok mixed [0, 1, 2, 3] (by kernel_rfl) ?_; conv => whnf) | (refine (id : AW _ _ _ (.region 18 _ true) _ _ → _) ?_; refine AW.draw (id := 18) tab_ok mixed [0, 1, 3, 2, 4, 5] (by kernel_rfl) ?_; conv => whnf) | (refine (id : AW _ _ _ (.region 25 _ true) _ _ → _) ?_; refine AW.drawT (id := 25) tab_ok mixed [0, 1, 2, 3, 5, 4, 6, 7, 8, 9, 10] oTPr4_64_25 (by kernel_rfl) ?_; conv => whnf) | (refine Fork.mk ?_ ?_ <;> conv => whnf) | ((first | refine AW.region tab_ok ?_ | refine AW.cond ?_ | refine AW.skip ?_ | refine AW.ret ?_ | refine AW.exit ?_); conv => whnf) | ((first | refine (c0).mono ?_ | refine (d0).mono ?_); rintro _ _ ⟨rfl, rfl⟩; conv => whnf) | ((first | refine And.intro (@rfl Val _) ?_ | refine And.intro (by decide) ?_ | refine cs (fun _ => ?_) (fun _ => ?_)) <;> conv => whnf)
    all_goals exact ⟨rfl, rfl⟩
  · have hr : othM 13 name (Ty.node tk tks) place [((Ty.node a0 s0), ⟨e0, x0, w0⟩)] = (unk, ⟨e0, x0, w0⟩) := by simp [othM, firstF, h0]
    rw [hr]
    refine ACall.body tab_ok (ρ := 0) (N := 149) Tryz.func64 rfl rfl rfl rfl rfl ?_
    repeat' first | ((refine AW.rounds 5 ?_; conv => whnf)) | ((refine And.intro (⟨by decide, by first | decide | (simp [Tm.rows]; done) | (simp [Tm.rows]; decide)⟩ : _ ∧ _) ?_; conv => whnf)) | ((intro row hrow; obtain rfl := Option.some.inj hrow; conv => whnf)) | ((refine cs (fun _ => ?_) (fun g => absurd g (by simpa using h0)); conv => whnf)) | refine AW.seq ?_ | refine AW.block ?_ | (refine (id : AW _ _ _ (.region 7 _ true) _ _ → _) ?_; refine AW.draw (id := 7) tab_ok mixed [0, 1, 2, 3] (by kernel_rfl) ?_; conv => whnf) | (refine (id : AW _ _ _ (.region 18 _ true) _ _ → _) ?_; refine AW.draw (id := 18) tab_ok mixed [0, 1, 3, 2, 4, 5] (by kernel_rfl) ?_; conv => whnf) | (refine (id : AW _ _ _ (.region 25 _ true) _ _ → _) ?_; refine AW.drawT (id := 25) tab_ok mixed [0, 1, 2, 3, 5, 4, 6, 7, 8, 9, 10] oTPr4_64_25 (by kernel_rfl) ?_; conv => whnf) | (refine Fork.mk ?_ ?_ <;> conv => whnf) | ((first | refine AW.region tab_ok ?_ | refine AW.cond ?_ | refine AW.skip ?_ | refine AW.ret ?_ | refine AW.exit ?_); conv => whnf) | (refine (c0).mono ?_; rintro _ _ ⟨rfl, rfl⟩; conv => whnf) | ((first | refine And.intro (@rfl Val _) ?_ | refine And.intro (by decide) ?_ | refine cs (fun _ => ?_) (fun _ => ?_)) <;> conv => whnf)
    all_goals exact ⟨rfl, rfl⟩
set_option maxRecDepth 10000 in
set_option maxHeartbeats 4000000 in
theorem oth15 (name arg : ByteArray) (num tk : Int) (tks : List Ty) (uk : Int) (uks : List Ty) (label place : Int) (l : List Bd) (t0 t1 : Tm) (q0 q1 : Ty × Flt)
    (c0 : ACall Tryz.prog 23 [t0.val, .c (.d (.sl 0 3 (bds l))), .c (.d (.int .i64 0))] [] (fun o σ => o = rV q0 ∧ σ = []))
    (c1 : ACall Tryz.prog 23 [t1.val, .c (.d (.sl 0 3 (bds l))), .c (.d (.int .i64 0))] [] (fun o σ => o = rV q1 ∧ σ = []))
    : ACall Tryz.prog 64 [(Tm.node 15 name arg num tk tks uk uks label place [t0, t1]).val, .c (.d (.sl 0 3 (bds l))), .c (.d (.int .i64 0))] [] (fun o σ => o = rV (othM 15 name (.node tk tks) place [q0, q1]) ∧ σ = []) := by
  have fl := fun e => Rfail_call e 15 name arg num tk tks uk uks label place [t0, t1]
  have fi := fun a => Rfine_call a 15 name arg num tk tks uk uks label place [t0, t1]
  obtain ⟨k0, n0, g0, m0, tk0, ts0, uk0, us0, b0, p0, ks0⟩ := t0
  obtain ⟨k1, n1, g1, m1, tk1, ts1, uk1, us1, b1, p1, ks1⟩ := t1
  obtain ⟨⟨a0, s0⟩, ⟨e0, x0, w0⟩⟩ := q0
  obtain ⟨⟨a1, s1⟩, ⟨e1, x1, w1⟩⟩ := q1
  by_cases h0 : e0 = 0
  · subst h0
    by_cases h1 : e1 = 0
    · subst h1
      have d0 := last15 name arg num tk tks uk uks label place ⟨k0, n0, g0, m0, tk0, ts0, uk0, us0, b0, p0, ks0⟩ ⟨k1, n1, g1, m1, tk1, ts1, uk1, us1, b1, p1, ks1⟩ (Ty.node a0 s0) (Ty.node a1 s1)
      have hr : othM 15 name (Ty.node tk tks) place [((Ty.node a0 s0), ⟨0, x0, w0⟩), ((Ty.node a1 s1), ⟨0, x1, w1⟩)] = restM 15 name (Ty.node tk tks) place [(Ty.node a0 s0), (Ty.node a1 s1)] := rfl
      rw [hr]
      simp only [restM, List.getD_cons_zero, List.getD_cons_succ, List.getD_nil]
      clear hr
      show ACall _ _ _ _ (fun o σ => o = rV (lastM 15 name (Ty.node tk tks) place (Ty.node a0 s0) (Ty.node a1 s1)) ∧ σ = [])
      generalize lastM 15 name (Ty.node tk tks) place (Ty.node a0 s0) (Ty.node a1 s1) = z0 at *
      obtain ⟨⟨z0k, z0s⟩, ⟨z0e, z0p, z0w⟩⟩ := z0
      refine ACall.body tab_ok (ρ := 0) (N := 149) Tryz.func64 rfl rfl rfl rfl rfl ?_
      repeat' first | ((refine AW.rounds 5 ?_; conv => whnf)) | ((refine And.intro (⟨by decide, by first | decide | (simp [Tm.rows]; done) | (simp [Tm.rows]; decide)⟩ : _ ∧ _) ?_; conv => whnf)) | ((intro row hrow; obtain rfl := Option.some.inj hrow; conv => whnf)) | refine AW.seq ?_ | refine AW.block ?_ | (refine (id : AW _ _ _ (.region 7 _ true) _ _ → _) ?_; refine AW.draw (id := 7) tab_ok mixed [0, 1, 2, 3] (by kernel_rfl) ?_; conv => whnf) | (refine (id : AW _ _ _ (.region 18 _ true) _ _ → _) ?_; refine AW.draw (id := 18) tab_ok mixed [0, 1, 3, 2, 4, 5] (by kernel_rfl) ?_; conv => whnf) | (refine (id : AW _ _ _ (.region 25 _ true) _ _ → _) ?_; refine AW.drawT (id := 25) tab_ok mixed [0, 1, 2, 3, 5, 4, 6, 7, 8, 9, 10] oTPr4_64_25 (by kernel_rfl) ?_; conv => whnf) | (refine Fork.mk ?_ ?_ <;> conv => whnf) | ((first | refine AW.region tab_ok ?_ | refine AW.cond ?_ | refine AW.skip ?_ | refine AW.ret ?_ | refine AW.exit ?_); conv => whnf) | ((first | refine (c0).mono ?_ | refine (c1).mono ?_ | refine (d0).mono ?_); rintro _ _ ⟨rfl, rfl⟩; conv => whnf) | ((first | refine And.intro (@rfl Val _) ?_ | refine And.intro (by decide) ?_ | refine cs (fun _ => ?_) (fun _ => ?_)) <;> conv => whnf)
      all_goals exact ⟨rfl, rfl⟩
    · have hr : othM 15 name (Ty.node tk tks) place [((Ty.node a0 s0), ⟨0, x0, w0⟩), ((Ty.node a1 s1), ⟨e1, x1, w1⟩)] = (unk, ⟨e1, x1, w1⟩) := by simp [othM, firstF, h1]
      rw [hr]
      refine ACall.body tab_ok (ρ := 0) (N := 149) Tryz.func64 rfl rfl rfl rfl rfl ?_
      repeat' first | ((refine AW.rounds 5 ?_; conv => whnf)) | ((refine And.intro (⟨by decide, by first | decide | (simp [Tm.rows]; done) | (simp [Tm.rows]; decide)⟩ : _ ∧ _) ?_; conv => whnf)) | ((intro row hrow; obtain rfl := Option.some.inj hrow; conv => whnf)) | ((refine cs (fun _ => ?_) (fun g => absurd g (by simpa using h1)); conv => whnf)) | refine AW.seq ?_ | refine AW.block ?_ | (refine (id : AW _ _ _ (.region 7 _ true) _ _ → _) ?_; refine AW.draw (id := 7) tab_ok mixed [0, 1, 2, 3] (by kernel_rfl) ?_; conv => whnf) | (refine (id : AW _ _ _ (.region 18 _ true) _ _ → _) ?_; refine AW.draw (id := 18) tab_ok mixed [0, 1, 3, 2, 4, 5] (by kernel_rfl) ?_; conv => whnf) | (refine (id : AW _ _ _ (.region 25 _ true) _ _ → _) ?_; refine AW.drawT (id := 25) tab_ok mixed [0, 1, 2, 3, 5, 4, 6, 7, 8, 9, 10] oTPr4_64_25 (by kernel_rfl) ?_; conv => whnf) | (refine Fork.mk ?_ ?_ <;> conv => whnf) | ((first | refine AW.region tab_ok ?_ | refine AW.cond ?_ | refine AW.skip ?_ | refine AW.ret ?_ | refine AW.exit ?_); conv => whnf) | ((first | refine (c0).mono ?_ | refine (c1).mono ?_); rintro _ _ ⟨rfl, rfl⟩; conv => whnf) | ((first | refine And.intro (@rfl Val _) ?_ | refine And.intro (by decide) ?_ | refine cs (fun _ => ?_) (fun _ => ?_)) <;> conv => whnf)
      all_goals exact ⟨rfl, rfl⟩
  · have hr : othM 15 name (Ty.node tk tks) place [((Ty.node a0 s0), ⟨e0, x0, w0⟩), ((Ty.node a1 s1), ⟨e1, x1, w1⟩)] = (unk, ⟨e0, x0, w0⟩) := by simp [othM, firstF, h0]
    rw [hr]
    refine ACall.body tab_ok (ρ := 0) (N := 149) Tryz.func64 rfl rfl rfl rfl rfl ?_
    repeat' first | ((refine AW.rounds 5 ?_; conv => whnf)) | ((refine And.intro (⟨by decide, by first | decide | (simp [Tm.rows]; done) | (simp [Tm.rows]; decide)⟩ : _ ∧ _) ?_; conv => whnf)) | ((intro row hrow; obtain rfl := Option.some.inj hrow; conv => whnf)) | ((refine cs (fun _ => ?_) (fun g => absurd g (by simpa using h0)); conv => whnf)) | refine AW.seq ?_ | refine AW.block ?_ | (refine (id : AW _ _ _ (.region 7 _ true) _ _ → _) ?_; refine AW.draw (id := 7) tab_ok mixed [0, 1, 2, 3] (by kernel_rfl) ?_; conv => whnf) | (refine (id : AW _ _ _ (.region 18 _ true) _ _ → _) ?_; refine AW.draw (id := 18) tab_ok mixed [0, 1, 3, 2, 4, 5] (by kernel_rfl) ?_; conv => whnf) | (refine (id : AW _ _ _ (.region 25 _ true) _ _ → _) ?_; refine AW.drawT (id := 25) tab_ok mixed [0, 1, 2, 3, 5, 4, 6, 7, 8, 9, 10] oTPr4_64_25 (by kernel_rfl) ?_; conv => whnf) | (refine Fork.mk ?_ ?_ <;> conv => whnf) | ((first | refine AW.region tab_ok ?_ | refine AW.cond ?_ | refine AW.skip ?_ | refine AW.ret ?_ | refine AW.exit ?_); conv => whnf) | ((first | refine (c0).mono ?_ | refine (c1).mono ?_); rintro _ _ ⟨rfl, rfl⟩; conv => whnf) | ((first | refine And.intro (@rfl Val _) ?_ | refine And.intro (by decide) ?_ | refine cs (fun _ => ?_) (fun _ => ?_)) <;> conv => whnf)
    all_goals exact ⟨rfl, rfl⟩
set_option maxRecDepth 10000 in
set_option maxHeartbeats 4000000 in
theorem oth16 (name arg : ByteArray) (num tk : Int) (tks : List Ty) (uk : Int) (uks : List Ty) (label place : Int) (l : List Bd) (t0 : Tm) (q0 : Ty × Flt)
    (c0 : ACall Tryz.prog 23 [t0.val, .c (.d (.sl 0 3 (bds l))), .c (.d (.int .i64 0))] [] (fun o σ => o = rV q0 ∧ σ = []))
    : ACall Tryz.prog 64 [(Tm.node 16 name arg num tk tks uk uks label place [t0]).val, .c (.d (.sl 0 3 (bds l))), .c (.d (.int .i64 0))] [] (fun o σ => o = rV (othM 16 name (.node tk tks) place [q0]) ∧ σ = []) := by
  have fl := fun e => Rfail_call e 16 name arg num tk tks uk uks label place [t0]
  have fi := fun a => Rfine_call a 16 name arg num tk tks uk uks label place [t0]
  obtain ⟨k0, n0, g0, m0, tk0, ts0, uk0, us0, b0, p0, ks0⟩ := t0
  obtain ⟨⟨a0, s0⟩, ⟨e0, x0, w0⟩⟩ := q0
  by_cases h0 : e0 = 0
  · subst h0
    have d0 := last16 name arg num tk tks uk uks label place ⟨k0, n0, g0, m0, tk0, ts0, uk0, us0, b0, p0, ks0⟩ (Ty.node a0 s0)
    have hr : othM 16 name (Ty.node tk tks) place [((Ty.node a0 s0), ⟨0, x0, w0⟩)] = restM 16 name (Ty.node tk tks) place [(Ty.node a0 s0)] := rfl
    rw [hr]
    simp only [restM, List.getD_cons_zero, List.getD_cons_succ, List.getD_nil]
    clear hr
    show ACall _ _ _ _ (fun o σ => o = rV (lastM 16 name (Ty.node tk tks) place (Ty.node a0 s0) unk) ∧ σ = [])
    generalize lastM 16 name (Ty.node tk tks) place (Ty.node a0 s0) unk = z0 at *
    obtain ⟨⟨z0k, z0s⟩, ⟨z0e, z0p, z0w⟩⟩ := z0
    refine ACall.body tab_ok (ρ := 0) (N := 149) Tryz.func64 rfl rfl rfl rfl rfl ?_
    repeat' first | ((refine AW.rounds 5 ?_; conv => whnf)) | ((refine And.intro (⟨by decide, by first | decide | (simp [Tm.rows]; done) | (simp [Tm.rows]; decide)⟩ : _ ∧ _) ?_; conv => whnf)) | ((intro row hrow; obtain rfl := Option.some.inj hrow; conv => whnf)) | refine AW.seq ?_ | refine AW.block ?_ | (refine (id : AW _ _ _ (.region 7 _ true) _ _ → _) ?_; refine AW.draw (id := 7) tab_ok mixed [0, 1, 2, 3] (by kernel_rfl) ?_; conv => whnf) | (refine (id : AW _ _ _ (.region 18 _ true) _ _ → _) ?_; refine AW.draw (id := 18) tab_ok mixed [0, 1, 3, 2, 4, 5] (by kernel_rfl) ?_; conv => whnf) | (refine (id : AW _ _ _ (.region 25 _ true) _ _ → _) ?_; refine AW.drawT (id := 25) tab_ok mixed [0, 1, 2, 3, 5, 4, 6, 7, 8, 9, 10] oTPr4_64_25 (by kernel_rfl) ?_; conv => whnf) | (refine Fork.mk ?_ ?_ <;> conv => whnf) | ((first | refine AW.region tab_ok ?_ | refine AW.cond ?_ | refine AW.skip ?_ | refine AW.ret ?_ | refine AW.exit ?_); conv => whnf) | ((first | refine (c0).mono ?_ | refine (d0).mono ?_); rintro _ _ ⟨rfl, rfl⟩; conv => whnf) | ((first | refine And.intro (@rfl Val _) ?_ | refine And.intro (by decide) ?_ | refine cs (fun _ => ?_) (fun _ => ?_)) <;> conv => whnf)
    all_goals exact ⟨rfl, rfl⟩
  · have hr : othM 16 name (Ty.node tk tks) place [((Ty.node a0 s0), ⟨e0, x0, w0⟩)] = (unk, ⟨e0, x0, w0⟩) := by simp [othM, firstF, h0]
    rw [hr]
    refine ACall.body tab_ok (ρ := 0) (N := 149) Tryz.func64 rfl rfl rfl rfl rfl ?_
    repeat' first | ((refine AW.rounds 5 ?_; conv => whnf)) | ((refine And.intro (⟨by decide, by first | decide | (simp [Tm.rows]; done) | (simp [Tm.rows]; decide)⟩ : _ ∧ _) ?_; conv => whnf)) | ((intro row hrow; obtain rfl := Option.some.inj hrow; conv => whnf)) | ((refine cs (fun _ => ?_) (fun g => absurd g (by simpa using h0)); conv => whnf)) | refine AW.seq ?_ | refine AW.block ?_ | (refine (id : AW _ _ _ (.region 7 _ true) _ _ → _) ?_; refine AW.draw (id := 7) tab_ok mixed [0, 1, 2, 3] (by kernel_rfl) ?_; conv => whnf) | (refine (id : AW _ _ _ (.region 18 _ true) _ _ → _) ?_; refine AW.draw (id := 18) tab_ok mixed [0, 1, 3, 2, 4, 5] (by kernel_rfl) ?_; conv => whnf) | (refine (id : AW _ _ _ (.region 25 _ true) _ _ → _) ?_; refine AW.drawT (id := 25) tab_ok mixed [0, 1, 2, 3, 5, 4, 6, 7, 8, 9, 10] oTPr4_64_25 (by kernel_rfl) ?_; conv => whnf) | (refine Fork.mk ?_ ?_ <;> conv => whnf) | ((first | refine AW.region tab_ok ?_ | refine AW.cond ?_ | refine AW.skip ?_ | refine AW.ret ?_ | refine AW.exit ?_); conv => whnf) | (refine (c0).mono ?_; rintro _ _ ⟨rfl, rfl⟩; conv => whnf) | ((first | refine And.intro (@rfl Val _) ?_ | refine And.intro (by decide) ?_ | refine cs (fun _ => ?_) (fun _ => ?_)) <;> conv => whnf)
    all_goals exact ⟨rfl, rfl⟩
end Go.Proofs.YtlboogackecjlaaGreat.E
