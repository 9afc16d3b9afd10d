/- Texts, merged: Pr2, Pr3. No conditions. -/
import Derived.Test.YtlboogackecjlaaGreatGenX15
/- The document's rules: what is around. No conditions. -/
set_option linter.unusedVariables false
set_option linter.unusedSimpArgs false
namespace Go.Proofs.YtlboogackecjlaaGreat.E
open Go

structure AroundI (l : List Bd) where
  i : Nat
  hi : i ≤ l.length
set_option maxRecDepth 10000 in
theorem RAround_call (l : List Bd) (s : ByteArray) (a : Ty) (hl : l.length ≤ 100000) : ACall Tryz.prog 58 [.c (.d (.sl 0 3 (bds l))), .c (.d (.str s)), a.val] [] (fun o σ => o = .ret (.c (.d (.sl 0 3 (bds (l ++ [⟨s, a⟩]))))) ∧ σ = []) := by
  obtain ⟨ak, aks⟩ := a
  have hw : IntKind.i64.wrap (((bds l).length : Int) + 1) = (l.length : Int) + 1 := by rw [bds_len, wrap64 (by omega) (by omega)]
  refine ACall.body tab_ok (ρ := 0) (N := 32) Tryz.func58 rfl rfl rfl rfl rfl ?_
  repeat' first | refine AW.seq ?_ | refine AW.block ?_ | ((first | refine AW.region tab_ok ?_ | refine AW.cond ?_ | refine AW.skip ?_ | refine AW.ret ?_ | refine AW.exit ?_); conv => whnf) | ((first | refine And.intro (@rfl Val _) ?_ | refine And.intro (by decide) ?_ | refine cs (fun _ => ?_) (fun _ => ?_)) <;> conv => whnf)
  refine ⟨⟨by decide, by rw [hw]; omega, by rw [hw]; show (48 : Int) * _ ≤ _; omega, by rw [hw]; omega⟩, ?_⟩
  conv => whnf
  repeat' first | refine AW.seq ?_ | refine AW.block ?_ | ((first | refine AW.region tab_ok ?_ | refine AW.cond ?_ | refine AW.skip ?_ | refine AW.ret ?_ | refine AW.exit ?_); conv => whnf) | ((first | refine And.intro (@rfl Val _) ?_ | refine And.intro (by decide) ?_ | refine cs (fun _ => ?_) (fun _ => ?_)) <;> conv => whnf)
  refine AW.loop (ι := AroundI l) (fun x => ⟨32, [(8, .c (.d (.int .i64 x.i))), (7, .c (.own 1 (bds (l.take x.i)).length)), (0, .c (.d (.sl 0 3 (bds l)))), (1, .c (.d (.str s))), (5, .c (.ptr 0 0))], [.var [.d (.int .i8 ak), .d (.sl 0 2 (Ty.rows aks))], .row 97 3 (bds (l.take x.i))], []⟩)
    (fun x => l.length - x.i) ⟨0, Nat.zero_le _⟩ 2 (fun _ => rfl) (Nat.le_of_ble_eq_true rfl) ⟨⟨rfl, rfl, rfl, rfl, rfl, trivial⟩, rfl, rfl, ⟨[], rfl⟩, rfl⟩ (fun x => ?_)
  obtain ⟨i, hi⟩ := x
  repeat' first | refine AW.seq ?_ | refine AW.block ?_ | ((first | refine AW.region tab_ok ?_ | refine AW.cond ?_ | refine AW.skip ?_ | refine AW.ret ?_ | refine AW.exit ?_); conv => whnf) | ((first | refine And.intro (@rfl Val _) ?_ | refine And.intro (by decide) ?_ | refine cs (fun _ => ?_) (fun _ => ?_)) <;> conv => whnf)
  · rename_i g1
    have g1 := of_decide_eq_true g1
    rw [bds_len] at g1
    simp only at g1
    have hlt : i < l.length := by omega
    obtain ⟨b, hb⟩ : ∃ b, l[i]? = some b := ⟨_, List.getElem?_eq_getElem hlt⟩
    refine ⟨by simp only [bds_len]; omega, fun row hrow => ?_⟩
    obtain ⟨b', hb', rfl⟩ := bds_get (i := i) (by simpa using hrow)
    rw [hb] at hb'; cases hb'
    have htk : bds (l.take (i + 1)) = bds (l.take i) ++ [b.cells] := by rw [List.take_add_one, hb]; simp [bds]
    obtain ⟨bn, bk, bks⟩ := b
    conv => whnf
    repeat' first | refine AW.seq ?_ | refine AW.block ?_ | ((first | refine AW.region tab_ok ?_ | refine AW.cond ?_ | refine AW.skip ?_ | refine AW.ret ?_ | refine AW.exit ?_); conv => whnf) | ((first | refine And.intro (@rfl Val _) ?_ | refine And.intro (by decide) ?_ | refine cs (fun _ => ?_) (fun _ => ?_)) <;> conv => whnf)
    refine ⟨⟨rfl, by simp only [bnd, bds_len, List.length_take, List.length_cons, List.length_nil]; omega⟩, ?_⟩
    conv => whnf
    repeat' first | refine AW.seq ?_ | refine AW.block ?_ | ((first | refine AW.region tab_ok ?_ | refine AW.cond ?_ | refine AW.skip ?_ | refine AW.ret ?_ | refine AW.exit ?_); conv => whnf) | ((first | refine And.intro (@rfl Val _) ?_ | refine And.intro (by decide) ?_ | refine cs (fun _ => ?_) (fun _ => ?_)) <;> conv => whnf)
    have htk : bds (l.take i) ++ [[.str bn, .int .i8 bk, .sl 0 2 (Ty.rows bks)]] = bds (l.take (i + 1)) := htk.symm
    have el : (bds (l.take i)).length + [[DV.str bn, .int .i8 bk, .sl 0 2 (Ty.rows bks)]].length = (bds (l.take (i + 1))).length := by rw [← htk, List.length_append]
    rw [el, htk, wrap64 (x := (i : Int) + 1) (by omega) (by omega)]
    exact ⟨⟨i + 1, hlt⟩, ⟨⟨rfl, rfl, rfl, rfl, rfl, trivial⟩, rfl, rfl, ⟨[], rfl⟩, rfl⟩, show l.length - (i + 1) < l.length - i by omega⟩
  · rename_i g1
    have g1 := of_decide_eq_false g1
    rw [bds_len] at g1
    simp only at g1
    obtain rfl : i = l.length := by omega
    simp only [List.take_length]
    refine ⟨⟨trivial, by simp only [bnd, bds_len, List.length_cons, List.length_nil]; omega⟩, ?_⟩
    conv => whnf
    repeat' first | refine AW.seq ?_ | refine AW.block ?_ | ((first | refine AW.region tab_ok ?_ | refine AW.cond ?_ | refine AW.skip ?_ | refine AW.ret ?_ | refine AW.exit ?_); conv => whnf) | ((first | refine And.intro (@rfl Val _) ?_ | refine And.intro (by decide) ?_ | refine cs (fun _ => ?_) (fun _ => ?_)) <;> conv => whnf)
    refine And.intro (by rw [List.length_append]) ?_
    conv => whnf
    rw [show bds (l ++ [⟨s, .node ak aks⟩]) = bds l ++ [[.str s, .int .i8 ak, .sl 0 2 (Ty.rows aks)]] from List.map_append ..]
    exact ⟨rfl, rfl⟩
set_option maxRecDepth 10000 in
theorem RFind_call (l : List Bd) (s : ByteArray) (hl : l.length ≤ 100000) : ACall Tryz.prog 56 [.c (.d (.sl 0 3 (bds l))), .c (.d (.str s))] [] (fun o σ => o = .ret (.tup [((findB l s).getD (.node 0 [])).val, .c (.d (.bool (findB l s).isSome))]) ∧ σ = []) := by
  refine ACall.body tab_ok (ρ := 0) (N := 27) Tryz.func56 rfl rfl rfl rfl rfl ?_
  repeat' first | refine AW.seq ?_ | refine AW.block ?_ | ((first | refine AW.region tab_ok ?_ | refine AW.cond ?_ | refine AW.skip ?_ | refine AW.ret ?_ | refine AW.exit ?_); conv => whnf) | ((first | refine And.intro (@rfl Val _) ?_ | refine And.intro (by decide) ?_ | refine cs (fun _ => ?_) (fun _ => ?_)) <;> conv => whnf)
  refine AW.loop (ι := FindI l s) (fun x => ⟨27, [(6, .c (.d (.int .i64 ((x.i : Int) - 1)))), (0, .c (.d (.sl 0 3 (bds l)))), (1, .c (.d (.str s))), (4, .c (.ptr 0 0))], [.var [.d (.int .i8 0), .d .nils]], []⟩)
    (fun x => x.i) ⟨l.length, Nat.le_refl _, by rw [List.take_length]⟩ 1 (fun _ => rfl) (Nat.le_of_ble_eq_true rfl) ⟨⟨by rw [bds_len, wrap64 (by omega) (by omega)]; rfl, rfl, rfl, rfl, trivial⟩, rfl, rfl, ⟨[], rfl⟩, rfl⟩ (fun x => ?_)
  obtain ⟨i, hi, h⟩ := x
  repeat' first | refine AW.seq ?_ | refine AW.block ?_ | ((first | refine AW.region tab_ok ?_ | refine AW.cond ?_ | refine AW.skip ?_ | refine AW.ret ?_ | refine AW.exit ?_); conv => whnf) | ((first | refine And.intro (@rfl Val _) ?_ | refine And.intro (by decide) ?_ | refine cs (fun _ => ?_) (fun _ => ?_)) <;> conv => whnf)
  · rename_i g1
    have g1 := of_decide_eq_true g1
    simp only at g1
    obtain ⟨j, rfl⟩ : ∃ j, i = j + 1 := ⟨i - 1, by omega⟩
    have hlt : j < l.length := by omega
    have hj : ((j + 1 : Nat) : Int) - 1 = (j : Int) := by omega
    refine ⟨by simp only [bds_len]; omega, fun row hrow => ?_⟩
    simp only [hj, Int.toNat_natCast] at hrow
    obtain ⟨b, hb, rfl⟩ := bds_get hrow
    have htk : l.take (j + 1) = l.take j ++ [b] := by rw [List.take_add_one, hb]; rfl
    rw [htk, findB_snoc] at h
    obtain ⟨bn, bk, bks⟩ := b
    conv => whnf
    have e1 : ∀ row, (bds l)[(((j + 1 : Nat) : Int) - 1).toNat]? = some row → (Bd.mk bn (.node bk bks)).cells = row := fun row h => by
      rw [hj, Int.toNat_natCast, bds, List.getElem?_map, hb] at h
      exact Option.some.inj h
    have f1 : 0 ≤ ((j + 1 : Nat) : Int) - 1 ∧ ((j + 1 : Nat) : Int) - 1 < ((bds l).length : Nat) := by rw [bds_len]; omega
    repeat' first | ((refine And.intro f1 fun row hrow => ?_; obtain rfl := e1 row hrow; conv => whnf)) | refine AW.seq ?_ | refine AW.block ?_ | ((first | refine AW.region tab_ok ?_ | refine AW.cond ?_ | refine AW.skip ?_ | refine AW.ret ?_ | refine AW.exit ?_); conv => whnf) | ((first | refine And.intro (@rfl Val _) ?_ | refine And.intro (by decide) ?_ | refine cs (fun _ => ?_) (fun _ => ?_)) <;> conv => whnf)
    · rename_i g2
      have g2 := of_decide_eq_true g2
      simp only at g2
      rw [if_pos g2] at h
      rw [h]
      exact ⟨rfl, rfl⟩
    · rename_i g2
      have g2 := of_decide_eq_false g2
      simp only at g2
      rw [if_neg g2] at h
      simp only [hj]
      rw [wrap64 (by omega) (by omega)]
      exact ⟨⟨j, by omega, h⟩, ⟨⟨rfl, rfl, rfl, rfl, trivial⟩, rfl, rfl, ⟨[], rfl⟩, rfl⟩, show j < j + 1 by omega⟩
  · rename_i g1
    have g1 := of_decide_eq_false g1
    simp only at g1
    obtain rfl : i = 0 := by omega
    rw [List.take_zero, findB_nil] at h
    rw [h]
    exact ⟨rfl, rfl⟩
end Go.Proofs.YtlboogackecjlaaGreat.E

/- The document's rules: the model; the last kinds. No conditions. -/
set_option linter.unusedVariables false
set_option linter.unusedSimpArgs false
namespace Go.Proofs.YtlboogackecjlaaGreat.E
open Go
def oTPr3_89_9 : OT := (.op 0 (.op 1 (.op 3 (.op 2 (.op 4 (.alt (.op 5 (.op 6 (.op 7 (.op 8 .nil)))) (.op 6 (.op 5 (.op 7 (.op 8 .nil))))))))))

def lastM (k : Int) (name : ByteArray) (T : Ty) (place : Int) (a b : Ty) : Ty × Flt :=
  if k = 12 ∨ k = 13 then
    if asB 5 T = false then failM 90 place
    else if agreeS a (if k = 13 then asR 5 T else asL 5 T) = false then failM 91 place
    else fineM (.node 5 [asL 5 T, asR 5 T]) place
  else if k = 15 then
    if agreeS a (.node 1 []) = false then failM 91 place
    else if agreeS b (.node 1 []) = false then failM 91 place
    else if name = ⟨#[60]⟩ ∨ name = ⟨#[61]⟩ then (.node 2 [], flt0) else (.node 1 [], flt0)
  else if agreeS a T = false then failM 91 place else (T, flt0)
/-- The rules of the terms that bind nothing, of their kids' types. -/
def restM (k : Int) (name : ByteArray) (T : Ty) (place : Int) (K : List Ty) : Ty × Flt :=
  let a := K.getD 0 unk; let b := K.getD 1 unk; let c := K.getD 2 unk
  if k = 6 then
    if asB 3 a = false then failM 90 place else if agreeS b (asL 3 a) = false then failM 91 place else (asR 3 a, flt0)
  else if k = 8 then
    if agreeS a (.node 2 []) = false then failM 91 place else if agreeS b c = false then failM 91 place else fineM (MeetS b c) place
  else if k = 9 then fineM (.node 4 [a, b]) place
  else if k = 10 then if asB 4 a = false then failM 90 place else (asL 4 a, flt0)
  else if k = 11 then if asB 4 a = false then failM 90 place else (asR 4 a, flt0)
  else lastM k name T place a b
def firstF : List (Ty × Flt) → Flt
  | [] => flt0
  | q :: r => if q.2.e = 0 then firstF r else q.2
def othM (k : Int) (name : ByteArray) (T : Ty) (place : Int) (Q : List (Ty × Flt)) : Ty × Flt :=
  if (firstF Q).e = 0 then restM k name T place (Q.map (·.1)) else (unk, firstF Q)
set_option maxRecDepth 10000 in
set_option maxHeartbeats 4000000 in
theorem last12 (name arg : ByteArray) (num tk : Int) (tks : List Ty) (uk : Int) (uks : List Ty) (label place : Int) (t0 : Tm) (r0 : Ty)
    : ACall Tryz.prog 89 [(Tm.node 12 name arg num tk tks uk uks label place [t0]).val, .agg ((r0.cells ++ unk.cells ++ unk.cells).map .d), .c (.d (.int .i64 0))] [] (fun o σ => o = rV (lastM 12 name (.node tk tks) place r0 unk) ∧ σ = []) := by
  have fl := fun e => Rfail_call e 12 name arg num tk tks uk uks label place [t0]
  have fi := fun a => Rfine_call a 12 name arg num tk tks uk uks label place [t0]
  have d0 := Rmatches_call 5 (by simp) (Ty.node tk tks)
  have d1 := Ragrees_call r0 (asL 5 (Ty.node tk tks))
  have d2 := RMake_call 5 (asL 5 (Ty.node tk tks)) (asR 5 (Ty.node tk tks))
  have d3 := fi (.node 5 [asL 5 (Ty.node tk tks), asR 5 (Ty.node tk tks)])
  simp only [lastM, show ((12 : Int) = 12 ∨ (12 : Int) = 13) = True by simp, if_true, show ((12 : Int) = 13) = False by simp, if_false]
  generalize asB 5 (Ty.node tk tks) = z0 at *
  generalize agreeS r0 (asL 5 (Ty.node tk tks)) = z1 at *
  generalize fineM (.node 5 [asL 5 (Ty.node tk tks), asR 5 (Ty.node tk tks)]) place = z2 at *
  generalize asL 5 (Ty.node tk tks) = z3 at *
  generalize asR 5 (Ty.node tk tks) = z4 at *
  obtain ⟨⟨z2k, z2s⟩, ⟨z2e, z2p, z2w⟩⟩ := z2
  obtain ⟨z3k, z3s⟩ := z3
  obtain ⟨z4k, z4s⟩ := z4
  obtain ⟨a0, s0⟩ := r0
  cases z0 <;> cases z1
  all_goals (
    refine ACall.body tab_ok (ρ := 0) (N := 134) Tryz.func89 rfl rfl rfl rfl rfl ?_
    repeat' first | refine AW.seq ?_ | refine AW.block ?_ | (refine (id : AW _ _ _ (.region 9 _ true) _ _ → _) ?_; refine AW.drawT (id := 9) tab_ok mixed [0, 1, 3, 2, 4, 5, 6, 7, 8] oTPr3_89_9 (by kernel_rfl) ?_; conv => whnf) | (refine (id : AW _ _ _ (.region 11 _ true) _ _ → _) ?_; refine AW.draw (id := 11) tab_ok mixed [0, 1, 3, 2, 4, 5, 6, 7, 8, 10, 9, 11, 12, 13] (by kernel_rfl) ?_; conv => whnf) | (refine Fork.mk ?_ ?_ <;> conv => whnf) | ((first | refine AW.region tab_ok ?_ | refine AW.cond ?_ | refine AW.skip ?_ | refine AW.ret ?_ | refine AW.exit ?_); conv => whnf) | ((first | refine (d0).mono ?_ | refine (d1).mono ?_ | refine (d2).mono ?_ | refine (d3).mono ?_ | refine (fl _).mono ?_); rintro _ _ ⟨rfl, rfl⟩; conv => whnf) | ((first | refine And.intro (@rfl Val _) ?_ | refine And.intro (by decide) ?_ | refine cs (fun _ => ?_) (fun _ => ?_)) <;> conv => whnf)
    all_goals first | exact ⟨rfl, rfl⟩ | (simp only [Bool.true_eq_false, if_false]; split <;> first | exact ⟨rfl, rfl⟩ | (exfalso; simp_all; done)))
set_option maxRecDepth 10000 in
set_option maxHeartbeats 4000000 in
theorem last13 (name arg : ByteArray) (num tk : Int) (tks : List Ty) (uk : Int) (uks : List Ty) (label place : Int) (t0 : Tm) (r0 : Ty)
    : ACall Tryz.prog 89 [(Tm.node 13 name arg num tk tks uk uks label place [t0]).val, .agg ((r0.cells ++ unk.cells ++ unk.cells).map .d), .c (.d (.int .i64 0))] [] (fun o σ => o = rV (lastM 13 name (.node tk tks) place r0 unk) ∧ σ = []) := by
  have fl := fun e => Rfail_call e 13 name arg num tk tks uk uks label place [t0]
  have fi := fun a => Rfine_call a 13 name arg num tk tks uk uks label place [t0]
  have d0 := Rmatches_call 5 (by simp) (Ty.node tk tks)
  have d1 := Ragrees_call r0 (asR 5 (Ty.node tk tks))
  have d2 := RMake_call 5 (asL 5 (Ty.node tk tks)) (asR 5 (Ty.node tk tks))
  have d3 := fi (.node 5 [asL 5 (Ty.node tk tks), asR 5 (Ty.node tk tks)])
  simp only [lastM, show ((13 : Int) = 12 ∨ (13 : Int) = 13) = True by simp, if_true, show ((13 : Int) = 13) = True by simp, if_false]
  generalize asB 5 (Ty.node tk tks) = z0 at *
  generalize agreeS r0 (asR 5 (Ty.node tk tks)) = z1 at *
  generalize fineM (.node 5 [asL 5 (Ty.node tk tks), asR 5 (Ty.node tk tks)]) place = z2 at *
  generalize asL 5 (Ty.node tk tks) = z3 at *
  generalize asR 5 (Ty.node tk tks) = z4 at *
  obtain ⟨⟨z2k, z2s⟩, ⟨z2e, z2p, z2w⟩⟩ := z2
  obtain ⟨z3k, z3s⟩ := z3
  obtain ⟨z4k, z4s⟩ := z4
  obtain ⟨a0, s0⟩ := r0
  cases z0 <;> cases z1
  all_goals (
    refine ACall.body tab_ok (ρ := 0) (N := 134) Tryz.func89 rfl rfl rfl rfl rfl ?_
    repeat' first | refine AW.seq ?_ | refine AW.block ?_ | (refine (id : AW _ _ _ (.region 9 _ true) _ _ → _) ?_; refine AW.drawT (id := 9) tab_ok mixed [0, 1, 3, 2, 4, 5, 6, 7, 8] oTPr3_89_9 (by kernel_rfl) ?_; conv => whnf) | (refine (id : AW _ _ _ (.region 11 _ true) _ _ → _) ?_; refine AW.draw (id := 11) tab_ok mixed [0, 1, 3, 2, 4, 5, 6, 7, 8, 10, 9, 11, 12, 13] (by kernel_rfl) ?_; conv => whnf) | (refine Fork.mk ?_ ?_ <;> conv => whnf) | ((first | refine AW.region tab_ok ?_ | refine AW.cond ?_ | refine AW.skip ?_ | refine AW.ret ?_ | refine AW.exit ?_); conv => whnf) | ((first | refine (d0).mono ?_ | refine (d1).mono ?_ | refine (d2).mono ?_ | refine (d3).mono ?_ | refine (fl _).mono ?_); rintro _ _ ⟨rfl, rfl⟩; conv => whnf) | ((first | refine And.intro (@rfl Val _) ?_ | refine And.intro (by decide) ?_ | refine cs (fun _ => ?_) (fun _ => ?_)) <;> conv => whnf)
    all_goals first | exact ⟨rfl, rfl⟩ | (simp only [Bool.true_eq_false, if_false]; split <;> first | exact ⟨rfl, rfl⟩ | (exfalso; simp_all; done)))
set_option maxRecDepth 10000 in
set_option maxHeartbeats 4000000 in
theorem last15 (name arg : ByteArray) (num tk : Int) (tks : List Ty) (uk : Int) (uks : List Ty) (label place : Int) (t0 t1 : Tm) (r0 r1 : Ty)
    : ACall Tryz.prog 89 [(Tm.node 15 name arg num tk tks uk uks label place [t0, t1]).val, .agg ((r0.cells ++ r1.cells ++ unk.cells).map .d), .c (.d (.int .i64 0))] [] (fun o σ => o = rV (lastM 15 name (.node tk tks) place r0 r1) ∧ σ = []) := by
  have fl := fun e => Rfail_call e 15 name arg num tk tks uk uks label place [t0, t1]
  have fi := fun a => Rfine_call a 15 name arg num tk tks uk uks label place [t0, t1]
  have d0 := RSimple_call 1
  have d1 := Ragrees_call r0 (.node 1 [])
  have d2 := Ragrees_call r1 (.node 1 [])
  have d3 := RSimple_call 2
  simp only [lastM, show ((15 : Int) = 12 ∨ (15 : Int) = 13) = False by simp, if_false, if_true]
  generalize agreeS r0 (.node 1 []) = z0 at *
  generalize agreeS r1 (.node 1 []) = z1 at *
  obtain ⟨a0, s0⟩ := r0
  obtain ⟨a1, s1⟩ := r1
  cases z0 <;> cases z1
  all_goals (
    refine ACall.body tab_ok (ρ := 0) (N := 134) Tryz.func89 rfl rfl rfl rfl rfl ?_
    repeat' first | refine AW.seq ?_ | refine AW.block ?_ | (refine (id : AW _ _ _ (.region 9 _ true) _ _ → _) ?_; refine AW.drawT (id := 9) tab_ok mixed [0, 1, 3, 2, 4, 5, 6, 7, 8] oTPr3_89_9 (by kernel_rfl) ?_; conv => whnf) | (refine (id : AW _ _ _ (.region 11 _ true) _ _ → _) ?_; refine AW.draw (id := 11) tab_ok mixed [0, 1, 3, 2, 4, 5, 6, 7, 8, 10, 9, 11, 12, 13] (by kernel_rfl) ?_; conv => whnf) | (refine Fork.mk ?_ ?_ <;> conv => whnf) | ((first | refine AW.region tab_ok ?_ | refine AW.cond ?_ | refine AW.skip ?_ | refine AW.ret ?_ | refine AW.exit ?_); conv => whnf) | ((first | refine (d0).mono ?_ | refine (d1).mono ?_ | refine (d2).mono ?_ | refine (d3).mono ?_ | refine (fl _).mono ?_); rintro _ _ ⟨rfl, rfl⟩; conv => whnf) | ((first | refine And.intro (@rfl Val _) ?_ | refine And.intro (by decide) ?_ | refine cs (fun _ => ?_) (fun _ => ?_)) <;> conv => whnf)
    all_goals first | exact ⟨rfl, rfl⟩ | (simp only [Bool.true_eq_false, if_false]; split <;> first | exact ⟨rfl, rfl⟩ | (exfalso; simp_all; done)))
set_option maxRecDepth 10000 in
set_option maxHeartbeats 4000000 in
theorem last16 (name arg : ByteArray) (num tk : Int) (tks : List Ty) (uk : Int) (uks : List Ty) (label place : Int) (t0 : Tm) (r0 : Ty)
    : ACall Tryz.prog 89 [(Tm.node 16 name arg num tk tks uk uks label place [t0]).val, .agg ((r0.cells ++ unk.cells ++ unk.cells).map .d), .c (.d (.int .i64 0))] [] (fun o σ => o = rV (lastM 16 name (.node tk tks) place r0 unk) ∧ σ = []) := by
  have fl := fun e => Rfail_call e 16 name arg num tk tks uk uks label place [t0]
  have fi := fun a => Rfine_call a 16 name arg num tk tks uk uks label place [t0]
  have d0 := Ragrees_call r0 (Ty.node tk tks)
  simp only [lastM, show ((16 : Int) = 12 ∨ (16 : Int) = 13) = False by simp, if_false, show ((16 : Int) = 15) = False by simp]
  generalize agreeS r0 (Ty.node tk tks) = z0 at *
  obtain ⟨a0, s0⟩ := r0
  cases z0
  all_goals (
    refine ACall.body tab_ok (ρ := 0) (N := 134) Tryz.func89 rfl rfl rfl rfl rfl ?_
    repeat' first | refine AW.seq ?_ | refine AW.block ?_ | (refine (id : AW _ _ _ (.region 9 _ true) _ _ → _) ?_; refine AW.drawT (id := 9) tab_ok mixed [0, 1, 3, 2, 4, 5, 6, 7, 8] oTPr3_89_9 (by kernel_rfl) ?_; conv => whnf) | (refine (id : AW _ _ _ (.region 11 _ true) _ _ → _) ?_; refine AW.draw (id := 11) tab_ok mixed [0, 1, 3, 2, 4, 5, 6, 7, 8, 10, 9, 11, 12, 13] (by kernel_rfl) ?_; conv => whnf) | (refine Fork.mk ?_ ?_ <;> conv => whnf) | ((first | refine AW.region tab_ok ?_ | refine AW.cond ?_ | refine AW.skip ?_ | refine AW.ret ?_ | refine AW.exit ?_); conv => whnf) | ((first | refine (d0).mono ?_ | refine (fl _).mono ?_); rintro _ _ ⟨rfl, rfl⟩; conv => whnf) | ((first | refine And.intro (@rfl Val _) ?_ | refine And.intro (by decide) ?_ | refine cs (fun _ => ?_) (fun _ => ?_)) <;> conv => whnf)
    all_goals first | exact ⟨rfl, rfl⟩ | (simp only [Bool.true_eq_false, if_false]; split <;> first | exact ⟨rfl, rfl⟩ | (exfalso; simp_all; done)))
end Go.Proofs.YtlboogackecjlaaGreat.E
