/- Texts, merged: Pr8, Pr9, Pr10. No conditions. -/
import Derived.Test.YtlboogackecjlaaGreatPr5
import Derived.Test.YtlboogackecjlaaGreatGenX9
import Derived.Test.YtlboogackecjlaaGreatGenX22
import Derived.Test.YtlboogackecjlaaGreatGenX14
/- The document's derivations: derived. No conditions. -/
set_option linter.unusedVariables false
set_option linter.unusedSimpArgs false
namespace Go.Proofs.YtlboogackecjlaaGreat.E
open Go
def oTPr8_24_2 : OT := (.op 0 (.op 1 (.op 3 (.alt (.op 2 (.op 4 (.op 5 (.op 6 .nil)))) (.op 5 (.op 2 (.op 4 (.op 6 .nil))))))))

set_option maxRecDepth 10000 in
set_option maxHeartbeats 4000000 in
theorem der0 (k : Int) (name arg : ByteArray) (num tk : Int) (tks : List Ty) (uk : Int) (uks : List Ty) (label place : Int) (l : List Bd) (R : ByteArray) (q : Ty × Flt)
    (cR : ACall Tryz.prog 23 [(Tm.node k name arg num tk tks uk uks label place []).val, .c (.d (.sl 0 3 (bds l))), .c (.d (.int .i64 0))] [] (fun o σ => o = rV q ∧ σ = []))
    (cN : ACall Tryz.prog 65 [.c (.d (.int .i8 k))] [] (fun o σ => o = .ret (.c (.d (.str R))) ∧ σ = []))
    : ACall Tryz.prog 24 [(Tm.node k name arg num tk tks uk uks label place []).val, .c (.d (.sl 0 3 (bds l)))] [] (fun o σ => o = .ret (Pf.node R q.1 []).val ∧ σ = []) := by
  generalize bds l = l0 at *
  obtain ⟨⟨a, s⟩, ⟨e, x, w⟩⟩ := q
  dsimp only at *
  refine ACall.body tab_ok (ρ := 0) (N := 43) Tryz.func24 rfl rfl rfl rfl rfl ?_
  repeat' first | ((refine FitsX.mk ⟨?_, rfl, rfl, ⟨[], rfl⟩, rfl⟩ rfl; repeat' (first | exact rfl | exact trivial | refine ⟨rfl, ?_⟩))) | ((refine (id : AW _ _ _ (.seq (.region 2 _ true) _) _ _ → _) ?_; refine AW.cut ⟨43, [(1, .c (.d (.sl 0 3 l0))), (2, .c (.ptr 0 0)), (4, .c (.ptr 1 0)), (7, .c (.ptr 4 0))], [.var ((Tm.node k name arg num tk tks uk uks label place []).cells.map .d), .var [.d (.str ⟨#[]⟩), .d (.int .i8 0), .d .nils, .d .nils], .var [.d (.int .i8 a), .d (.sl 0 2 (Ty.rows s))], .var [.d (.int .i64 e), .d (.int .i64 x), .d (.str w)], .var [.d (.str R), .d (.int .i8 a), .d (.sl 0 2 (Ty.rows s)), .d .nils]], []⟩ ?_ (AW.ghost 28 4 4 3 (by decide) rfl rfl ?_))) | ((refine AW.rounds 5 ?_; conv => whnf)) | ((refine And.intro (⟨by decide, by first | decide | (simp [Tm.rows, Pf.rows]; done) | (simp [Tm.rows, Pf.rows]; decide)⟩ : _ ∧ _) ?_; conv => whnf)) | ((intro row hrow; obtain rfl := Option.some.inj hrow; conv => whnf)) | ((refine And.intro (⟨rfl, by simp [bnd]⟩ : _ ∧ bnd _ _) ?_; conv => whnf)) | ((refine And.intro (rfl : (_ : Nat) = _) ?_; conv => whnf)) | refine AW.seq ?_ | refine AW.block ?_ | (refine (id : AW _ _ _ (.region 2 _ true) _ _ → _) ?_; refine AW.drawT (id := 2) tab_ok mixed [0, 1, 3, 2, 4, 5, 6] oTPr8_24_2 (by kernel_rfl) ?_; conv => whnf) | (refine (id : AW _ _ _ (.region 6 _ true) _ _ → _) ?_; refine AW.draw (id := 6) tab_ok mixed [0, 1, 2, 3, 4, 5, 6, 7, 8, 9, 10, 11, 12, 13, 14, 15] (by kernel_rfl) ?_; conv => whnf) | (refine Fork.mk ?_ ?_ <;> conv => whnf) | ((first | refine AW.region tab_ok ?_ | refine AW.cond ?_ | refine AW.skip ?_ | refine AW.ret ?_ | refine AW.exit ?_); conv => whnf) | ((first | refine (cR).mono ?_ | refine (cN).mono ?_); rintro _ _ ⟨rfl, rfl⟩; conv => whnf) | ((first | refine And.intro (@rfl Val _) ?_ | refine And.intro (by decide) ?_ | refine cs (fun _ => ?_) (fun _ => ?_)) <;> conv => whnf)
  all_goals first | exact ⟨rfl, rfl⟩ | exact trivial
set_option maxRecDepth 10000 in
set_option maxHeartbeats 4000000 in
theorem der1 (k : Int) (name arg : ByteArray) (num tk : Int) (tks : List Ty) (uk : Int) (uks : List Ty) (label place : Int) (t0 : Tm) (l : List Bd) (R : ByteArray) (q : Ty × Flt) (L0 : List Bd) (d0 : Pf)
    (cR : ACall Tryz.prog 23 [(Tm.node k name arg num tk tks uk uks label place [t0]).val, .c (.d (.sl 0 3 (bds l))), .c (.d (.int .i64 0))] [] (fun o σ => o = rV q ∧ σ = []))
    (cN : ACall Tryz.prog 65 [.c (.d (.int .i8 k))] [] (fun o σ => o = .ret (.c (.d (.str R))) ∧ σ = []))
    (ci0 : ACall Tryz.prog 66 [(Tm.node k name arg num tk tks uk uks label place [t0]).val, .c (.d (.sl 0 3 (bds l))), .c (.d (.int .i64 (0 : Nat)))] [] (fun o σ => o = .ret (.c (.d (.sl 0 3 (bds L0)))) ∧ σ = []))
    (cd0 : ACall Tryz.prog 24 [t0.val, .c (.d (.sl 0 3 (bds L0)))] [] (fun o σ => o = .ret d0.val ∧ σ = []))
    : ACall Tryz.prog 24 [(Tm.node k name arg num tk tks uk uks label place [t0]).val, .c (.d (.sl 0 3 (bds l)))] [] (fun o σ => o = .ret (Pf.node R q.1 [d0]).val ∧ σ = []) := by
  generalize bds L0 = M0 at *
  generalize bds l = l0 at *
  obtain ⟨k0, n0, g0, m0, tk0, ts0, uk0, us0, b0, p0, ks0⟩ := t0
  obtain ⟨r0, ⟨v0, vs0⟩, rs0⟩ := d0
  obtain ⟨⟨a, s⟩, ⟨e, x, w⟩⟩ := q
  dsimp only at *
  refine ACall.body tab_ok (ρ := 0) (N := 43) Tryz.func24 rfl rfl rfl rfl rfl ?_
  repeat' first | ((refine FitsX.mk ⟨?_, rfl, rfl, ⟨[], rfl⟩, rfl⟩ rfl; repeat' (first | exact rfl | exact trivial | refine ⟨rfl, ?_⟩))) | ((refine (id : AW _ _ _ (.seq (.region 2 _ true) _) _ _ → _) ?_; refine AW.cut ⟨43, [(1, .c (.d (.sl 0 3 l0))), (2, .c (.ptr 0 0)), (4, .c (.ptr 1 0)), (7, .c (.ptr 4 0))], [.var ((Tm.node k name arg num tk tks uk uks label place [Tm.node k0 n0 g0 m0 tk0 ts0 uk0 us0 b0 p0 ks0]).cells.map .d), .var [.d (.str ⟨#[]⟩), .d (.int .i8 0), .d .nils, .d .nils], .var [.d (.int .i8 a), .d (.sl 0 2 (Ty.rows s))], .var [.d (.int .i64 e), .d (.int .i64 x), .d (.str w)], .var [.d (.str R), .d (.int .i8 a), .d (.sl 0 2 (Ty.rows s)), .d .nils]], []⟩ ?_ (AW.ghost 28 4 4 3 (by decide) rfl rfl ?_))) | ((refine AW.rounds 5 ?_; conv => whnf)) | ((refine And.intro (⟨by decide, by first | decide | (simp [Tm.rows, Pf.rows]; done) | (simp [Tm.rows, Pf.rows]; decide)⟩ : _ ∧ _) ?_; conv => whnf)) | ((intro row hrow; obtain rfl := Option.some.inj hrow; conv => whnf)) | ((refine And.intro (⟨rfl, by simp [bnd]⟩ : _ ∧ bnd _ _) ?_; conv => whnf)) | ((refine And.intro (rfl : (_ : Nat) = _) ?_; conv => whnf)) | refine AW.seq ?_ | refine AW.block ?_ | (refine (id : AW _ _ _ (.region 2 _ true) _ _ → _) ?_; refine AW.drawT (id := 2) tab_ok mixed [0, 1, 3, 2, 4, 5, 6] oTPr8_24_2 (by kernel_rfl) ?_; conv => whnf) | (refine (id : AW _ _ _ (.region 6 _ true) _ _ → _) ?_; refine AW.draw (id := 6) tab_ok mixed [0, 1, 2, 3, 4, 5, 6, 7, 8, 9, 10, 11, 12, 13, 14, 15] (by kernel_rfl) ?_; conv => whnf) | (refine Fork.mk ?_ ?_ <;> conv => whnf) | ((first | refine AW.region tab_ok ?_ | refine AW.cond ?_ | refine AW.skip ?_ | refine AW.ret ?_ | refine AW.exit ?_); conv => whnf) | ((first | refine (cR).mono ?_ | refine (cN).mono ?_ | refine (ci0).mono ?_ | refine (cd0).mono ?_); rintro _ _ ⟨rfl, rfl⟩; conv => whnf) | ((first | refine And.intro (@rfl Val _) ?_ | refine And.intro (by decide) ?_ | refine cs (fun _ => ?_) (fun _ => ?_)) <;> conv => whnf)
  all_goals first | exact ⟨rfl, rfl⟩ | exact trivial
set_option maxRecDepth 10000 in
set_option maxHeartbeats 4000000 in
theorem der2 (k : Int) (name arg : ByteArray) (num tk : Int) (tks : List Ty) (uk : Int) (uks : List Ty) (label place : Int) (t0 t1 : Tm) (l : List Bd) (R : ByteArray) (q : Ty × Flt) (L0 L1 : List Bd) (d0 d1 : Pf)
    (cR : ACall Tryz.prog 23 [(Tm.node k name arg num tk tks uk uks label place [t0, t1]).val, .c (.d (.sl 0 3 (bds l))), .c (.d (.int .i64 0))] [] (fun o σ => o = rV q ∧ σ = []))
    (cN : ACall Tryz.prog 65 [.c (.d (.int .i8 k))] [] (fun o σ => o = .ret (.c (.d (.str R))) ∧ σ = []))
    (ci0 : ACall Tryz.prog 66 [(Tm.node k name arg num tk tks uk uks label place [t0, t1]).val, .c (.d (.sl 0 3 (bds l))), .c (.d (.int .i64 (0 : Nat)))] [] (fun o σ => o = .ret (.c (.d (.sl 0 3 (bds L0)))) ∧ σ = []))
    (cd0 : ACall Tryz.prog 24 [t0.val, .c (.d (.sl 0 3 (bds L0)))] [] (fun o σ => o = .ret d0.val ∧ σ = []))
    (ci1 : ACall Tryz.prog 66 [(Tm.node k name arg num tk tks uk uks label place [t0, t1]).val, .c (.d (.sl 0 3 (bds l))), .c (.d (.int .i64 (1 : Nat)))] [] (fun o σ => o = .ret (.c (.d (.sl 0 3 (bds L1)))) ∧ σ = []))
    (cd1 : ACall Tryz.prog 24 [t1.val, .c (.d (.sl 0 3 (bds L1)))] [] (fun o σ => o = .ret d1.val ∧ σ = []))
    : ACall Tryz.prog 24 [(Tm.node k name arg num tk tks uk uks label place [t0, t1]).val, .c (.d (.sl 0 3 (bds l)))] [] (fun o σ => o = .ret (Pf.node R q.1 [d0, d1]).val ∧ σ = []) := by
  generalize bds L0 = M0 at *
  generalize bds L1 = M1 at *
  generalize bds l = l0 at *
  obtain ⟨k0, n0, g0, m0, tk0, ts0, uk0, us0, b0, p0, ks0⟩ := t0
  obtain ⟨r0, ⟨v0, vs0⟩, rs0⟩ := d0
  obtain ⟨k1, n1, g1, m1, tk1, ts1, uk1, us1, b1, p1, ks1⟩ := t1
  obtain ⟨r1, ⟨v1, vs1⟩, rs1⟩ := d1
  obtain ⟨⟨a, s⟩, ⟨e, x, w⟩⟩ := q
  dsimp only at *
  refine ACall.body tab_ok (ρ := 0) (N := 43) Tryz.func24 rfl rfl rfl rfl rfl ?_
  repeat' first | ((refine FitsX.mk ⟨?_, rfl, rfl, ⟨[], rfl⟩, rfl⟩ rfl; repeat' (first | exact rfl | exact trivial | refine ⟨rfl, ?_⟩))) | ((refine (id : AW _ _ _ (.seq (.region 2 _ true) _) _ _ → _) ?_; refine AW.cut ⟨43, [(1, .c (.d (.sl 0 3 l0))), (2, .c (.ptr 0 0)), (4, .c (.ptr 1 0)), (7, .c (.ptr 4 0))], [.var ((Tm.node k name arg num tk tks uk uks label place [Tm.node k0 n0 g0 m0 tk0 ts0 uk0 us0 b0 p0 ks0, Tm.node k1 n1 g1 m1 tk1 ts1 uk1 us1 b1 p1 ks1]).cells.map .d), .var [.d (.str ⟨#[]⟩), .d (.int .i8 0), .d .nils, .d .nils], .var [.d (.int .i8 a), .d (.sl 0 2 (Ty.rows s))], .var [.d (.int .i64 e), .d (.int .i64 x), .d (.str w)], .var [.d (.str R), .d (.int .i8 a), .d (.sl 0 2 (Ty.rows s)), .d .nils]], []⟩ ?_ (AW.ghost 28 4 4 3 (by decide) rfl rfl ?_))) | ((refine AW.rounds 5 ?_; conv => whnf)) | ((refine And.intro (⟨by decide, by first | decide | (simp [Tm.rows, Pf.rows]; done) | (simp [Tm.rows, Pf.rows]; decide)⟩ : _ ∧ _) ?_; conv => whnf)) | ((intro row hrow; obtain rfl := Option.some.inj hrow; conv => whnf)) | ((refine And.intro (⟨rfl, by simp [bnd]⟩ : _ ∧ bnd _ _) ?_; conv => whnf)) | ((refine And.intro (rfl : (_ : Nat) = _) ?_; conv => whnf)) | refine AW.seq ?_ | refine AW.block ?_ | (refine (id : AW _ _ _ (.region 2 _ true) _ _ → _) ?_; refine AW.drawT (id := 2) tab_ok mixed [0, 1, 3, 2, 4, 5, 6] oTPr8_24_2 (by kernel_rfl) ?_; conv => whnf) | (refine (id : AW _ _ _ (.region 6 _ true) _ _ → _) ?_; refine AW.draw (id := 6) tab_ok mixed [0, 1, 2, 3, 4, 5, 6, 7, 8, 9, 10, 11, 12, 13, 14, 15] (by kernel_rfl) ?_; conv => whnf) | (refine Fork.mk ?_ ?_ <;> conv => whnf) | ((first | refine AW.region tab_ok ?_ | refine AW.cond ?_ | refine AW.skip ?_ | refine AW.ret ?_ | refine AW.exit ?_); conv => whnf) | ((first | refine (cR).mono ?_ | refine (cN).mono ?_ | refine (ci0).mono ?_ | refine (ci1).mono ?_ | refine (cd0).mono ?_ | refine (cd1).mono ?_); rintro _ _ ⟨rfl, rfl⟩; conv => whnf) | ((first | refine And.intro (@rfl Val _) ?_ | refine And.intro (by decide) ?_ | refine cs (fun _ => ?_) (fun _ => ?_)) <;> conv => whnf)
  all_goals first | exact ⟨rfl, rfl⟩ | exact trivial
set_option maxRecDepth 10000 in
set_option maxHeartbeats 4000000 in
theorem der3 (k : Int) (name arg : ByteArray) (num tk : Int) (tks : List Ty) (uk : Int) (uks : List Ty) (label place : Int) (t0 t1 t2 : Tm) (l : List Bd) (R : ByteArray) (q : Ty × Flt) (L0 L1 L2 : List Bd) (d0 d1 d2 : Pf)
    (cR : ACall Tryz.prog 23 [(Tm.node k name arg num tk tks uk uks label place [t0, t1, t2]).val, .c (.d (.sl 0 3 (bds l))), .c (.d (.int .i64 0))] [] (fun o σ => o = rV q ∧ σ = []))
    (cN : ACall Tryz.prog 65 [.c (.d (.int .i8 k))] [] (fun o σ => o = .ret (.c (.d (.str R))) ∧ σ = []))
    (ci0 : ACall Tryz.prog 66 [(Tm.node k name arg num tk tks uk uks label place [t0, t1, t2]).val, .c (.d (.sl 0 3 (bds l))), .c (.d (.int .i64 (0 : Nat)))] [] (fun o σ => o = .ret (.c (.d (.sl 0 3 (bds L0)))) ∧ σ = []))
    (cd0 : ACall Tryz.prog 24 [t0.val, .c (.d (.sl 0 3 (bds L0)))] [] (fun o σ => o = .ret d0.val ∧ σ = []))
    (ci1 : ACall Tryz.prog 66 [(Tm.node k name arg num tk tks uk uks label place [t0, t1, t2]).val, .c (.d (.sl 0 3 (bds l))), .c (.d (.int .i64 (1 : Nat)))] [] (fun o σ => o = .ret (.c (.d (.sl 0 3 (bds L1)))) ∧ σ = []))
    (cd1 : ACall Tryz.prog 24 [t1.val, .c (.d (.sl 0 3 (bds L1)))] [] (fun o σ => o = .ret d1.val ∧ σ = []))
    (ci2 : ACall Tryz.prog 66 [(Tm.node k name arg num tk tks uk uks label place [t0, t1, t2]).val, .c (.d (.sl 0 3 (bds l))), .c (.d (.int .i64 (2 : Nat)))] [] (fun o σ => o = .ret (.c (.d (.sl 0 3 (bds L2)))) ∧ σ = []))
    (cd2 : ACall Tryz.prog 24 [t2.val, .c (.d (.sl 0 3 (bds L2)))] [] (fun o σ => o = .ret d2.val ∧ σ = []))
    : ACall Tryz.prog 24 [(Tm.node k name arg num tk tks uk uks label place [t0, t1, t2]).val, .c (.d (.sl 0 3 (bds l)))] [] (fun o σ => o = .ret (Pf.node R q.1 [d0, d1, d2]).val ∧ σ = []) := by
  generalize bds L0 = M0 at *
  generalize bds L1 = M1 at *
  generalize bds L2 = M2 at *
  generalize bds l = l0 at *
  obtain ⟨k0, n0, g0, m0, tk0, ts0, uk0, us0, b0, p0, ks0⟩ := t0
  obtain ⟨r0, ⟨v0, vs0⟩, rs0⟩ := d0
  obtain ⟨k1, n1, g1, m1, tk1, ts1, uk1, us1, b1, p1, ks1⟩ := t1
  obtain ⟨r1, ⟨v1, vs1⟩, rs1⟩ := d1
  obtain ⟨k2, n2, g2, m2, tk2, ts2, uk2, us2, b2, p2, ks2⟩ := t2
  obtain ⟨r2, ⟨v2, vs2⟩, rs2⟩ := d2
  obtain ⟨⟨a, s⟩, ⟨e, x, w⟩⟩ := q
  dsimp only at *
  refine ACall.body tab_ok (ρ := 0) (N := 43) Tryz.func24 rfl rfl rfl rfl rfl ?_
  repeat' first | ((refine FitsX.mk ⟨?_, rfl, rfl, ⟨[], rfl⟩, rfl⟩ rfl; repeat' (first | exact rfl | exact trivial | refine ⟨rfl, ?_⟩))) | ((refine (id : AW _ _ _ (.seq (.region 2 _ true) _) _ _ → _) ?_; refine AW.cut ⟨43, [(1, .c (.d (.sl 0 3 l0))), (2, .c (.ptr 0 0)), (4, .c (.ptr 1 0)), (7, .c (.ptr 4 0))], [.var ((Tm.node k name arg num tk tks uk uks label place [Tm.node k0 n0 g0 m0 tk0 ts0 uk0 us0 b0 p0 ks0, Tm.node k1 n1 g1 m1 tk1 ts1 uk1 us1 b1 p1 ks1, Tm.node k2 n2 g2 m2 tk2 ts2 uk2 us2 b2 p2 ks2]).cells.map .d), .var [.d (.str ⟨#[]⟩), .d (.int .i8 0), .d .nils, .d .nils], .var [.d (.int .i8 a), .d (.sl 0 2 (Ty.rows s))], .var [.d (.int .i64 e), .d (.int .i64 x), .d (.str w)], .var [.d (.str R), .d (.int .i8 a), .d (.sl 0 2 (Ty.rows s)), .d .nils]], []⟩ ?_ (AW.ghost 28 4 4 3 (by decide) rfl rfl ?_))) | ((refine AW.rounds 5 ?_; conv => whnf)) | ((refine And.intro (⟨by decide, by first | decide | (simp [Tm.rows, Pf.rows]; done) | (simp [Tm.rows, Pf.rows]; decide)⟩ : _ ∧ _) ?_; conv => whnf)) | ((intro row hrow; obtain rfl := Option.some.inj hrow; conv => whnf)) | ((refine And.intro (⟨rfl, by simp [bnd]⟩ : _ ∧ bnd _ _) ?_; conv => whnf)) | ((refine And.intro (rfl : (_ : Nat) = _) ?_; conv => whnf)) | refine AW.seq ?_ | refine AW.block ?_ | (refine (id : AW _ _ _ (.region 2 _ true) _ _ → _) ?_; refine AW.drawT (id := 2) tab_ok mixed [0, 1, 3, 2, 4, 5, 6] oTPr8_24_2 (by kernel_rfl) ?_; conv => whnf) | (refine (id : AW _ _ _ (.region 6 _ true) _ _ → _) ?_; refine AW.draw (id := 6) tab_ok mixed [0, 1, 2, 3, 4, 5, 6, 7, 8, 9, 10, 11, 12, 13, 14, 15] (by kernel_rfl) ?_; conv => whnf) | (refine Fork.mk ?_ ?_ <;> conv => whnf) | ((first | refine AW.region tab_ok ?_ | refine AW.cond ?_ | refine AW.skip ?_ | refine AW.ret ?_ | refine AW.exit ?_); conv => whnf) | ((first | refine (cR).mono ?_ | refine (cN).mono ?_ | refine (ci0).mono ?_ | refine (ci1).mono ?_ | refine (ci2).mono ?_ | refine (cd0).mono ?_ | refine (cd1).mono ?_ | refine (cd2).mono ?_); rintro _ _ ⟨rfl, rfl⟩; conv => whnf) | ((first | refine And.intro (@rfl Val _) ?_ | refine And.intro (by decide) ?_ | refine cs (fun _ => ?_) (fun _ => ?_)) <;> conv => whnf)
  all_goals first | exact ⟨rfl, rfl⟩ | exact trivial
end Go.Proofs.YtlboogackecjlaaGreat.E

/- The document's derivations, for every term. No conditions. -/
set_option linter.unusedVariables false
set_option linter.unusedSimpArgs false
namespace Go.Proofs.YtlboogackecjlaaGreat.E
open Go

mutual
/-- A term's derivation by the document. -/
def dvd : Tm → List Bd → Pf
  | .node k name arg num tk tks uk uks label place ks, l => .node (ruleN k) (rul (.node k name arg num tk tks uk uks label place ks) l).1 (dvds k name arg (.node tk tks) (.node uk uks) l ((ruls ks).getD 0 rz l).1 ks 0)
def dvds (k : Int) (name arg : ByteArray) (T U : Ty) (l : List Bd) (a : Ty) : List Tm → Nat → List Pf
  | [], _ => []
  | t :: r, i => dvd t (innerM k name arg T U l i a) :: dvds k name arg T U l a r (i + 1)
end
theorem innerM_len' (k : Int) (name arg : ByteArray) (T U : Ty) (l : List Bd) (i : Nat) (a : Ty) : (innerM k name arg T U l i a).length ≤ l.length + 2 := by
  unfold innerM
  split
  · simp
  · split
    · simp
    · split
      · split <;> simp
      · omega
set_option maxRecDepth 10000 in
set_option maxHeartbeats 4000000 in
theorem derived_call (t : Tm) : tmright t = true → tmhas 17 t = false → ∀ l : List Bd, l.length + 2 * tmN t ≤ 90000 → ACall Tryz.prog 24 [t.val, .c (.d (.sl 0 3 (bds l)))] [] (fun o σ => o = .ret (dvd t l).val ∧ σ = []) := by
  induction t using Tm.ind with
  | _ k name arg num tk tks uk uks label place ks ih =>
  intro hr h17 l hl
  have cR := Rules_call _ hr h17 l hl
  have h17' : ¬ k = 17 ∧ tmhass 17 ks = false := by simpa [tmhas] using h17
  have hv : 0 ≤ k ∧ k ≤ 17 := by simpa [validK] using tmright_valid hr
  have hn := tmright_len hr
  have hpos : 0 < tmN (.node k name arg num tk tks uk uks label place ks) := tmN_pos _
  have cN := RName_call k (by omega)
  have h17k : ∀ t ∈ ks, tmhas 17 t = false := fun t ht => by
    cases e : tmhas 17 t with
    | false => rfl
    | true => rw [tmhass_mem 17 ks t ht e] at h17'; exact absurd h17'.2 (by simp)
  have hN : ∀ t ∈ ks, tmN t + 1 ≤ tmN (.node k name arg num tk tks uk uks label place ks) := fun t ht => by
    have h1 := tmN_mem ks t ht
    simp only [tmN]; omega
  have hc : ∀ t ∈ ks, ∀ l' : List Bd, l'.length ≤ l.length + 2 → ACall Tryz.prog 24 [t.val, .c (.d (.sl 0 3 (bds l')))] [] (fun o σ => o = .ret (dvd t l').val ∧ σ = []) := fun t ht l' hl' => by
    have h2 := hN t ht
    exact ih t ht (tmright_kid hr ht) (h17k t ht) l' (by omega)
  have hq : ∀ t ∈ ks, ACall Tryz.prog 23 [t.val, .c (.d (.sl 0 3 (bds l))), .c (.d (.int .i64 0))] [] (fun o σ => o = rV (rul t l) ∧ σ = []) := fun t ht => by
    have h2 := hN t ht
    exact Rules_call t (tmright_kid hr ht) (h17k t ht) l (by omega)
  have hl9 : l.length ≤ 90000 := by omega
  clear ih h17 hl hpos hr hN h17k
  rw [dvd]
  rcases (by omega : k = 0 ∨ k = 1 ∨ k = 2 ∨ k = 3 ∨ k = 4 ∨ k = 5 ∨ k = 6 ∨ k = 7 ∨ k = 8 ∨ k = 9 ∨ k = 10 ∨ k = 11 ∨ k = 12 ∨ k = 13 ∨ k = 14 ∨ k = 15 ∨ k = 16) with rfl | rfl | rfl | rfl | rfl | rfl | rfl | rfl | rfl | rfl | rfl | rfl | rfl | rfl | rfl | rfl | rfl
  · obtain rfl := len0 (show (0 : Int) = ks.length from hn)
    exact der0 0 name arg num tk tks uk uks label place l _ _ cR cN
  · obtain rfl := len0 (show (0 : Int) = ks.length from hn)
    exact der0 1 name arg num tk tks uk uks label place l _ _ cR cN
  · obtain rfl := len0 (show (0 : Int) = ks.length from hn)
    exact der0 2 name arg num tk tks uk uks label place l _ _ cR cN
  · obtain rfl := len0 (show (0 : Int) = ks.length from hn)
    exact der0 3 name arg num tk tks uk uks label place l _ _ cR cN
  · obtain ⟨t0, rfl⟩ := len1 (show (1 : Int) = ks.length from hn)
    generalize ha : ((ruls [t0]).getD 0 rz l).1 = a
    have cd0 := hc t0 (by simp) (innerM 4 name arg (.node tk tks) (.node uk uks) l 0 a) (innerM_len' ..)
    have ci0 := inn4_i name arg num tk tks uk uks label place l hl9 t0 0
    rw [show l ++ [⟨name, .node tk tks⟩] = innerM 4 name arg (.node tk tks) (.node uk uks) l 0 a by simp [innerM]] at ci0
    have := der1 4 name arg num tk tks uk uks label place t0 l _ _ _ _ cR cN ci0 cd0
    simpa only [dvds] using this
  · obtain ⟨t0, rfl⟩ := len1 (show (1 : Int) = ks.length from hn)
    generalize ha : ((ruls [t0]).getD 0 rz l).1 = a
    have cd0 := hc t0 (by simp) (innerM 5 name arg (.node tk tks) (.node uk uks) l 0 a) (innerM_len' ..)
    have ci0 := inn5_i name arg num tk tks uk uks label place l hl9 t0 0
    rw [show l ++ [⟨name, .node 3 [.node tk tks, .node uk uks]⟩] ++ [⟨arg, .node tk tks⟩] = innerM 5 name arg (.node tk tks) (.node uk uks) l 0 a by simp [innerM]] at ci0
    have := der1 5 name arg num tk tks uk uks label place t0 l _ _ _ _ cR cN ci0 cd0
    simpa only [dvds] using this
  · obtain ⟨t0, t1, rfl⟩ := len2 (show (2 : Int) = ks.length from hn)
    generalize ha : ((ruls [t0, t1]).getD 0 rz l).1 = a
    have cd0 := hc t0 (by simp) (innerM 6 name arg (.node tk tks) (.node uk uks) l 0 a) (innerM_len' ..)
    have ci0 := inn6_i name arg num tk tks uk uks label place l hl9 t0 t1 0
    have ei0 : innerM 6 name arg (.node tk tks) (.node uk uks) l 0 a = l := by simp [innerM]
    rw [ei0] at cd0
    have cd1 := hc t1 (by simp) (innerM 6 name arg (.node tk tks) (.node uk uks) l 1 a) (innerM_len' ..)
    have ci1 := inn6_i name arg num tk tks uk uks label place l hl9 t0 t1 1
    have ei1 : innerM 6 name arg (.node tk tks) (.node uk uks) l 1 a = l := by simp [innerM]
    rw [ei1] at cd1
    have := der2 6 name arg num tk tks uk uks label place t0 t1 l _ _ _ _ _ _ cR cN ci0 cd0 ci1 cd1
    simpa only [dvds, ei0, ei1] using this
  · obtain ⟨t0, t1, rfl⟩ := len2 (show (2 : Int) = ks.length from hn)
    generalize ha : ((ruls [t0, t1]).getD 0 rz l).1 = a
    have cd0 := hc t0 (by simp) (innerM 7 name arg (.node tk tks) (.node uk uks) l 0 a) (innerM_len' ..)
    have ci0 := inn7_0 name arg num tk tks uk uks label place l hl9 t0 t1
    have ei0 : innerM 7 name arg (.node tk tks) (.node uk uks) l 0 a = l := by simp [innerM]
    rw [ei0] at cd0
    have cd1 := hc t1 (by simp) (innerM 7 name arg (.node tk tks) (.node uk uks) l 1 a) (innerM_len' ..)
    have ci1 := inn7_1 name arg num tk tks uk uks label place l hl9 t0 t1
    rw [show l ++ [⟨name, .node tk tks⟩] = innerM 7 name arg (.node tk tks) (.node uk uks) l 1 a by simp [innerM]] at ci1
    have := der2 7 name arg num tk tks uk uks label place t0 t1 l _ _ _ _ _ _ cR cN ci0 cd0 ci1 cd1
    simpa only [dvds, ei0] using this
  · obtain ⟨t0, t1, t2, rfl⟩ := len3 (show (3 : Int) = ks.length from hn)
    generalize ha : ((ruls [t0, t1, t2]).getD 0 rz l).1 = a
    have cd0 := hc t0 (by simp) (innerM 8 name arg (.node tk tks) (.node uk uks) l 0 a) (innerM_len' ..)
    have ci0 := inn8_i name arg num tk tks uk uks label place l hl9 t0 t1 t2 0
    have ei0 : innerM 8 name arg (.node tk tks) (.node uk uks) l 0 a = l := by simp [innerM]
    rw [ei0] at cd0
    have cd1 := hc t1 (by simp) (innerM 8 name arg (.node tk tks) (.node uk uks) l 1 a) (innerM_len' ..)
    have ci1 := inn8_i name arg num tk tks uk uks label place l hl9 t0 t1 t2 1
    have ei1 : innerM 8 name arg (.node tk tks) (.node uk uks) l 1 a = l := by simp [innerM]
    rw [ei1] at cd1
    have cd2 := hc t2 (by simp) (innerM 8 name arg (.node tk tks) (.node uk uks) l 2 a) (innerM_len' ..)
    have ci2 := inn8_i name arg num tk tks uk uks label place l hl9 t0 t1 t2 2
    have ei2 : innerM 8 name arg (.node tk tks) (.node uk uks) l 2 a = l := by simp [innerM]
    rw [ei2] at cd2
    have := der3 8 name arg num tk tks uk uks label place t0 t1 t2 l _ _ _ _ _ _ _ _ cR cN ci0 cd0 ci1 cd1 ci2 cd2
    simpa only [dvds, ei0, ei1, ei2] using this
  · obtain ⟨t0, t1, rfl⟩ := len2 (show (2 : Int) = ks.length from hn)
    generalize ha : ((ruls [t0, t1]).getD 0 rz l).1 = a
    have cd0 := hc t0 (by simp) (innerM 9 name arg (.node tk tks) (.node uk uks) l 0 a) (innerM_len' ..)
    have ci0 := inn9_i name arg num tk tks uk uks label place l hl9 t0 t1 0
    have ei0 : innerM 9 name arg (.node tk tks) (.node uk uks) l 0 a = l := by simp [innerM]
    rw [ei0] at cd0
    have cd1 := hc t1 (by simp) (innerM 9 name arg (.node tk tks) (.node uk uks) l 1 a) (innerM_len' ..)
    have ci1 := inn9_i name arg num tk tks uk uks label place l hl9 t0 t1 1
    have ei1 : innerM 9 name arg (.node tk tks) (.node uk uks) l 1 a = l := by simp [innerM]
    rw [ei1] at cd1
    have := der2 9 name arg num tk tks uk uks label place t0 t1 l _ _ _ _ _ _ cR cN ci0 cd0 ci1 cd1
    simpa only [dvds, ei0, ei1] using this
  · obtain ⟨t0, rfl⟩ := len1 (show (1 : Int) = ks.length from hn)
    generalize ha : ((ruls [t0]).getD 0 rz l).1 = a
    have cd0 := hc t0 (by simp) (innerM 10 name arg (.node tk tks) (.node uk uks) l 0 a) (innerM_len' ..)
    have ci0 := inn10_i name arg num tk tks uk uks label place l hl9 t0 0
    have ei0 : innerM 10 name arg (.node tk tks) (.node uk uks) l 0 a = l := by simp [innerM]
    rw [ei0] at cd0
    have := der1 10 name arg num tk tks uk uks label place t0 l _ _ _ _ cR cN ci0 cd0
    simpa only [dvds, ei0] using this
  · obtain ⟨t0, rfl⟩ := len1 (show (1 : Int) = ks.length from hn)
    generalize ha : ((ruls [t0]).getD 0 rz l).1 = a
    have cd0 := hc t0 (by simp) (innerM 11 name arg (.node tk tks) (.node uk uks) l 0 a) (innerM_len' ..)
    have ci0 := inn11_i name arg num tk tks uk uks label place l hl9 t0 0
    have ei0 : innerM 11 name arg (.node tk tks) (.node uk uks) l 0 a = l := by simp [innerM]
    rw [ei0] at cd0
    have := der1 11 name arg num tk tks uk uks label place t0 l _ _ _ _ cR cN ci0 cd0
    simpa only [dvds, ei0] using this
  · obtain ⟨t0, rfl⟩ := len1 (show (1 : Int) = ks.length from hn)
    generalize ha : ((ruls [t0]).getD 0 rz l).1 = a
    have cd0 := hc t0 (by simp) (innerM 12 name arg (.node tk tks) (.node uk uks) l 0 a) (innerM_len' ..)
    have ci0 := inn12_i name arg num tk tks uk uks label place l hl9 t0 0
    have ei0 : innerM 12 name arg (.node tk tks) (.node uk uks) l 0 a = l := by simp [innerM]
    rw [ei0] at cd0
    have := der1 12 name arg num tk tks uk uks label place t0 l _ _ _ _ cR cN ci0 cd0
    simpa only [dvds, ei0] using this
  · obtain ⟨t0, rfl⟩ := len1 (show (1 : Int) = ks.length from hn)
    generalize ha : ((ruls [t0]).getD 0 rz l).1 = a
    have cd0 := hc t0 (by simp) (innerM 13 name arg (.node tk tks) (.node uk uks) l 0 a) (innerM_len' ..)
    have ci0 := inn13_i name arg num tk tks uk uks label place l hl9 t0 0
    have ei0 : innerM 13 name arg (.node tk tks) (.node uk uks) l 0 a = l := by simp [innerM]
    rw [ei0] at cd0
    have := der1 13 name arg num tk tks uk uks label place t0 l _ _ _ _ cR cN ci0 cd0
    simpa only [dvds, ei0] using this
  · obtain ⟨t0, t1, t2, rfl⟩ := len3 (show (3 : Int) = ks.length from hn)
    generalize ha : ((ruls [t0, t1, t2]).getD 0 rz l).1 = a
    have ha' : (rul t0 l).1 = a := ha
    have cd0 := hc t0 (by simp) (innerM 14 name arg (.node tk tks) (.node uk uks) l 0 a) (innerM_len' ..)
    have ci0 := inn14_0 name arg num tk tks uk uks label place l hl9 t0 t1 t2 _ (hq t0 (by simp))
    have ei0 : innerM 14 name arg (.node tk tks) (.node uk uks) l 0 a = l := by simp [innerM]
    rw [ei0] at cd0
    have cd1 := hc t1 (by simp) (innerM 14 name arg (.node tk tks) (.node uk uks) l 1 a) (innerM_len' ..)
    have ci1 := inn14_1 name arg num tk tks uk uks label place l hl9 t0 t1 t2 _ (hq t0 (by simp))
    rw [ha'] at ci1
    rw [show l ++ [⟨name, asL 5 a⟩] = innerM 14 name arg (.node tk tks) (.node uk uks) l 1 a by simp [innerM]] at ci1
    have cd2 := hc t2 (by simp) (innerM 14 name arg (.node tk tks) (.node uk uks) l 2 a) (innerM_len' ..)
    have ci2 := inn14_2 name arg num tk tks uk uks label place l hl9 t0 t1 t2 _ (hq t0 (by simp))
    rw [ha'] at ci2
    rw [show l ++ [⟨arg, asR 5 a⟩] = innerM 14 name arg (.node tk tks) (.node uk uks) l 2 a by simp [innerM]] at ci2
    have := der3 14 name arg num tk tks uk uks label place t0 t1 t2 l _ _ _ _ _ _ _ _ cR cN ci0 cd0 ci1 cd1 ci2 cd2
    simpa only [dvds, ei0] using this
  · obtain ⟨t0, t1, rfl⟩ := len2 (show (2 : Int) = ks.length from hn)
    generalize ha : ((ruls [t0, t1]).getD 0 rz l).1 = a
    have cd0 := hc t0 (by simp) (innerM 15 name arg (.node tk tks) (.node uk uks) l 0 a) (innerM_len' ..)
    have ci0 := inn15_i name arg num tk tks uk uks label place l hl9 t0 t1 0
    have ei0 : innerM 15 name arg (.node tk tks) (.node uk uks) l 0 a = l := by simp [innerM]
    rw [ei0] at cd0
    have cd1 := hc t1 (by simp) (innerM 15 name arg (.node tk tks) (.node uk uks) l 1 a) (innerM_len' ..)
    have ci1 := inn15_i name arg num tk tks uk uks label place l hl9 t0 t1 1
    have ei1 : innerM 15 name arg (.node tk tks) (.node uk uks) l 1 a = l := by simp [innerM]
    rw [ei1] at cd1
    have := der2 15 name arg num tk tks uk uks label place t0 t1 l _ _ _ _ _ _ cR cN ci0 cd0 ci1 cd1
    simpa only [dvds, ei0, ei1] using this
  · obtain ⟨t0, rfl⟩ := len1 (show (1 : Int) = ks.length from hn)
    generalize ha : ((ruls [t0]).getD 0 rz l).1 = a
    have cd0 := hc t0 (by simp) (innerM 16 name arg (.node tk tks) (.node uk uks) l 0 a) (innerM_len' ..)
    have ci0 := inn16_i name arg num tk tks uk uks label place l hl9 t0 0
    have ei0 : innerM 16 name arg (.node tk tks) (.node uk uks) l 0 a = l := by simp [innerM]
    rw [ei0] at cd0
    have := der1 16 name arg num tk tks uk uks label place t0 l _ _ _ _ cR cN ci0 cd0
    simpa only [dvds, ei0] using this
end Go.Proofs.YtlboogackecjlaaGreat.E

/- The document's derivations: Sound, Find, Same, Proves. No conditions. -/
set_option linter.unusedVariables false
set_option linter.unusedSimpArgs false
namespace Go.Proofs.YtlboogackecjlaaGreat.E
open Go

set_option maxRecDepth 10000 in
theorem RSound_call (t : Tm) : ACall Tryz.prog 22 [t.val, .c (.d (.int .i8 17))] [] (fun o σ => o = .ret (.c (.d (.int .i64 (soundP t)))) ∧ σ = []) := by
  have c1 := rtmCheck_call t
  by_cases hc : tmcheck t = 0
  · have c2 := rhas_call 17 t (tmcheck_ok hc).1
    have e : soundP t = if tmhas 17 t = true then 30 else 0 := by simp [soundP, hc]
    rw [e]
    rw [hc] at c1
    generalize tmhas 17 t = b at *
    clear hc e
    obtain ⟨k, name, arg, num, tk, tks, uk, uks, label, place, ks⟩ := t
    refine ACall.body tab_ok (ρ := 0) (N := 14) Tryz.func22 rfl rfl rfl rfl rfl ?_
    repeat' first | refine AW.seq ?_ | refine AW.block ?_ | ((first | refine AW.region tab_ok ?_ | refine AW.cond ?_ | refine AW.skip ?_ | refine AW.ret ?_ | refine AW.exit ?_); conv => whnf) | ((first | refine (c1).mono ?_ | refine (c2).mono ?_); rintro _ _ ⟨rfl, rfl⟩; conv => whnf) | ((first | refine And.intro (@rfl Val _) ?_ | refine And.intro (by decide) ?_ | refine cs (fun _ => ?_) (fun _ => ?_)) <;> conv => whnf)
    · rename_i h
      rw [if_pos h]
      exact ⟨rfl, rfl⟩
    · rename_i h
      rw [if_neg (by simp [h])]
      exact ⟨rfl, rfl⟩
  · have e : soundP t = tmcheck t := by simp [soundP, hc]
    rw [e]
    generalize tmcheck t = cc at *
    clear e
    obtain ⟨k, name, arg, num, tk, tks, uk, uks, label, place, ks⟩ := t
    refine ACall.body tab_ok (ρ := 0) (N := 14) Tryz.func22 rfl rfl rfl rfl rfl ?_
    repeat' first | ((refine cs (fun _ => ?_) (fun h => absurd h (by simpa using hc)); conv => whnf)) | refine AW.seq ?_ | refine AW.block ?_ | ((first | refine AW.region tab_ok ?_ | refine AW.cond ?_ | refine AW.skip ?_ | refine AW.ret ?_ | refine AW.exit ?_); conv => whnf) | (refine (c1).mono ?_; rintro _ _ ⟨rfl, rfl⟩; conv => whnf) | ((first | refine And.intro (@rfl Val _) ?_ | refine And.intro (by decide) ?_ | refine cs (fun _ => ?_) (fun _ => ?_)) <;> conv => whnf)
    exact ⟨rfl, rfl⟩
def rfindE (t : Tm) : Int := if soundP t ≠ 0 then soundP t else if (rul t []).2.e = 0 then 0 else 100
def rfindP (t : Tm) : Pf := if rfindE t = 0 then dvd t [] else pf0
set_option maxRecDepth 10000 in
theorem RFindP_call (t : Tm) : ACall Tryz.prog 10 [t.val] [] (fun o σ => o = .ret (.tup [(rfindP t).val, .c (.d (.int .i64 (rfindE t)))]) ∧ σ = []) := by
  have c1 := RSound_call t
  by_cases h : soundP t = 0
  · obtain ⟨h1, h2⟩ := soundP_ok h
    obtain ⟨h3, h4⟩ := tmcheck_ok h1
    have c2 := Rules_call t h4 h2 [] (by simp; omega)
    have c3 := derived_call t h4 h2 [] (by simp; omega)
    rw [h] at c1
    have e1 : rfindE t = if (rul t []).2.e = 0 then 0 else 100 := by simp [rfindE, h]
    unfold rfindP
    rw [e1]
    generalize rul t [] = q at *
    generalize dvd t [] = d at *
    clear h h1 h2 h3 h4 e1
    obtain ⟨⟨qk, qks⟩, ⟨e, x, w⟩⟩ := q
    obtain ⟨dr, ⟨dk, dks⟩, ds⟩ := d
    obtain ⟨k, name, arg, num, tk, tks, uk, uks, label, place, ks⟩ := t
    dsimp only at *
    by_cases he : e = 0
    · subst he
      rw [if_pos rfl, if_pos rfl]
      refine ACall.body tab_ok (ρ := 0) (N := 24) Tryz.func10 rfl rfl rfl rfl rfl ?_
      repeat' first | refine AW.seq ?_ | refine AW.block ?_ | ((first | refine AW.region tab_ok ?_ | refine AW.cond ?_ | refine AW.skip ?_ | refine AW.ret ?_ | refine AW.exit ?_); conv => whnf) | ((first | refine (c1).mono ?_ | refine (c2).mono ?_ | refine (c3).mono ?_); rintro _ _ ⟨rfl, rfl⟩; conv => whnf) | ((first | refine And.intro (@rfl Val _) ?_ | refine And.intro (by decide) ?_ | refine cs (fun _ => ?_) (fun _ => ?_)) <;> conv => whnf)
      all_goals first | exact ⟨rfl, rfl⟩
    · rw [if_neg he, if_neg (by decide)]
      refine ACall.body tab_ok (ρ := 0) (N := 24) Tryz.func10 rfl rfl rfl rfl rfl ?_
      repeat' first | ((refine cs (fun _ => ?_) (fun g => absurd g (by simpa using he)); conv => whnf)) | refine AW.seq ?_ | refine AW.block ?_ | ((first | refine AW.region tab_ok ?_ | refine AW.cond ?_ | refine AW.skip ?_ | refine AW.ret ?_ | refine AW.exit ?_); conv => whnf) | ((first | refine (c1).mono ?_ | refine (c2).mono ?_ | refine (c3).mono ?_); rintro _ _ ⟨rfl, rfl⟩; conv => whnf) | ((first | refine And.intro (@rfl Val _) ?_ | refine And.intro (by decide) ?_ | refine cs (fun _ => ?_) (fun _ => ?_)) <;> conv => whnf)
      all_goals first | exact ⟨rfl, rfl⟩
  · have e1 : rfindE t = soundP t := by simp [rfindE, h]
    have e2 : rfindP t = pf0 := by simp [rfindP, e1, h]
    rw [e1, e2]
    generalize soundP t = S at *
    obtain ⟨k, name, arg, num, tk, tks, uk, uks, label, place, ks⟩ := t
    refine ACall.body tab_ok (ρ := 0) (N := 24) Tryz.func10 rfl rfl rfl rfl rfl ?_
    repeat' first | ((refine cs (fun _ => ?_) (fun g => absurd g (by simpa using h)); conv => whnf)) | refine AW.seq ?_ | refine AW.block ?_ | ((first | refine AW.region tab_ok ?_ | refine AW.cond ?_ | refine AW.skip ?_ | refine AW.ret ?_ | refine AW.exit ?_); conv => whnf) | (refine (c1).mono ?_; rintro _ _ ⟨rfl, rfl⟩; conv => whnf) | ((first | refine And.intro (@rfl Val _) ?_ | refine And.intro (by decide) ?_ | refine cs (fun _ => ?_) (fun _ => ?_)) <;> conv => whnf)
    all_goals exact ⟨rfl, rfl⟩
end Go.Proofs.YtlboogackecjlaaGreat.E
