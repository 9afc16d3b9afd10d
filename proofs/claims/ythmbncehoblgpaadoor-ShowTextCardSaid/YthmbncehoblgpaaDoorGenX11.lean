/- Texts, merged: St14, St15, TyOpen, Glue, TmOpen. No conditions. -/
import Derived.Test.YthmbncehoblgpaaDoorGenX9
import Derived.Test.YthmbncehoblgpaaDoorGenX10
import Derived.Test.YthmbncehoblgpaaDoorGenX2
import Derived.Deep.Slices
import Derived.WideKeyArgs
import Derived.ChangeArms
import Derived.ChangeOld
import Derived.Below
import Derived.WalkKit
import Derived.ProofKit
import Derived.OpenShut
import Derived.SizedLaws
import Derived.Test.YthmbncehoblgpaaDoorGenX3
/- Walks: the document's text of any term that may be told. No conditions. -/
set_option linter.unusedVariables false
set_option linter.unusedSimpArgs false
namespace Go.Proofs.YthmbncehoblgpaaDoor.E
open Go

set_option maxRecDepth 10000 in
set_option maxHeartbeats 2000000 in
theorem rwords_1 (name arg : ByteArray) (num : Int) (tk : Int) (tks : List Ty) (uk : Int) (uks : List Ty) (label place : Int) (h : NumR num) (hm : num ≠ -9223372036854775808) : RWordsC 49 (.node 1 name arg num tk tks uk uks label place []) := by
  intro hb
  by_cases hn : num < 0
  · have hd : decide (num < 0) = true := by simp [hn]
    have hW : tmW (Tm.node 1 name arg num tk tks uk uks label place []) = [bw [45], digs (-num)] := by
      show (if num < 0 then [bw [45], digs (-num)] else [digs num]) = _
      rw [if_pos hn]
    rw [hW] at hb ⊢
    clear hW
    simp only [wsum_app, wsum_cons, wsum_nil, bw_size, List.length_cons, List.length_nil] at hb
    obtain ⟨q, hq⟩ : ∃ q : Nat, -num = q := ⟨(-num).toNat, by omega⟩
    have hw : IntKind.i64.wrap (0 - num) = (q : Int) := by
      rw [Int.zero_sub, hq]
      exact wrap64 (by unfold NumR at h; omega) (by unfold NumR at h; omega)
    have c1 := digits_call q (by unfold NumR at h; omega)
    rw [← hq] at c1
    generalize hdg : digs (-num) = dg at *
    rw [hq] at c1
    refine ACall.body tab_ok (ρ := 0) (N := 232) Tryd.func49 rfl rfl rfl rfl rfl ?_
    repeat' first | ((rw [hd]; conv => whnf)) | ((rw [hw]; refine (c1).mono ?_; rintro _ _ ⟨rfl, rfl⟩; conv => whnf)) | ((refine And.intro (by simp only [ByteArray.size_append, bw_size, bwl, List.length_cons, List.length_nil]; omega : (_ : Nat) ≤ 9223372036854775807) ?_; conv => whnf)) | refine AW.seq ?_ | refine AW.block ?_ | (refine (_root_.id : AW _ _ _ (.region 13 _ true) _ _ → _) ?_; refine AW.draw (id := 13) tab_ok mixed [0, 1, 2, 3, 4, 5, 9, 10, 11, 12, 6, 7, 8, 13, 14, 15] (by kernel_rfl) ?_; conv => whnf) | (refine (_root_.id : AW _ _ _ (.region 15 _ true) _ _ → _) ?_; refine AW.draw (id := 15) tab_ok mixed [0, 1, 2, 3, 4, 5, 6, 7, 8, 9, 13, 14, 18, 19, 20, 21, 10, 11, 12, 15, 16, 17, 22, 23, 24] (by kernel_rfl) ?_; conv => whnf) | (refine (_root_.id : AW _ _ _ (.region 17 _ true) _ _ → _) ?_; refine AW.draw (id := 17) tab_ok mixed [0, 1, 2, 3, 6, 7, 8, 9, 4, 5, 10, 11, 12, 13] (by kernel_rfl) ?_; conv => whnf) | (refine (_root_.id : AW _ _ _ (.region 19 _ true) _ _ → _) ?_; refine AW.draw (id := 19) tab_ok mixed [0, 1, 2, 3, 4, 5, 9, 10, 11, 12, 16, 17, 18, 19, 6, 7, 8, 13, 14, 15, 20, 21, 22] (by kernel_rfl) ?_; conv => whnf) | (refine (_root_.id : AW _ _ _ (.region 21 _ true) _ _ → _) ?_; refine AW.draw (id := 21) tab_ok mixed [0, 1, 2, 3, 7, 8, 9, 10, 14, 15, 16, 17, 4, 5, 6, 11, 12, 13, 18, 19, 20] (by kernel_rfl) ?_; conv => whnf) | (refine (_root_.id : AW _ _ _ (.region 23 _ true) _ _ → _) ?_; refine AW.draw (id := 23) tab_ok mixed [0, 1, 2, 3, 7, 8, 9, 10, 4, 5, 6, 11, 12, 13, 14] (by kernel_rfl) ?_; conv => whnf) | (refine (_root_.id : AW _ _ _ (.region 29 _ true) _ _ → _) ?_; refine AW.draw (id := 29) tab_ok mixed [0, 1, 5, 6, 7, 8, 2, 3, 4, 9, 10, 11] (by kernel_rfl) ?_; conv => whnf) | (refine (_root_.id : AW _ _ _ (.region 31 _ true) _ _ → _) ?_; refine AW.draw (id := 31) tab_ok mixed [0, 1, 5, 6, 7, 8, 2, 3, 4, 9, 10, 11] (by kernel_rfl) ?_; conv => whnf) | (refine (_root_.id : AW _ _ _ (.region 33 _ true) _ _ → _) ?_; refine AW.draw (id := 33) tab_ok mixed [0, 1, 2, 3, 7, 8, 11, 12, 13, 14, 18, 19, 22, 23, 24, 25, 4, 5, 6, 9, 10, 15, 16, 17, 20, 21, 26, 27, 28] (by kernel_rfl) ?_; conv => whnf) | (refine (_root_.id : AW _ _ _ (.region 35 _ true) _ _ → _) ?_; refine AW.draw (id := 35) tab_ok mixed [0, 1, 2, 3, 6, 7, 4, 5, 8, 9, 10] (by kernel_rfl) ?_; conv => whnf) | ((first | refine AW.region tab_ok ?_ | refine AW.cond ?_ | refine AW.skip ?_ | refine AW.ret ?_ | refine AW.exit ?_); conv => whnf) | ((first | refine And.intro (@rfl Val _) ?_ | refine And.intro (by decide) ?_ | refine cs (fun _ => ?_) (fun _ => ?_)) <;> conv => whnf)
    all_goals first | exact ⟨rfl, rfl⟩ | (refine ⟨retS (ba_eq ?_), rfl⟩; simp [ba_app, bw_list, joinW_cons, joinW_app, joinW_one]; done)
  · have hd : decide (num < 0) = false := by simp [hn]
    have hW : tmW (Tm.node 1 name arg num tk tks uk uks label place []) = [digs num] := by
      show (if num < 0 then [bw [45], digs (-num)] else [digs num]) = _
      rw [if_neg hn]
    rw [hW] at hb ⊢
    clear hW
    obtain ⟨q, rfl⟩ : ∃ q : Nat, num = q := ⟨num.toNat, by omega⟩
    have c1 := digits_call q (by unfold NumR at h; omega)
    generalize hdg : digs (q : Int) = dg at *
    refine ACall.body tab_ok (ρ := 0) (N := 232) Tryd.func49 rfl rfl rfl rfl rfl ?_
    repeat' first | ((rw [hd]; conv => whnf)) | refine AW.seq ?_ | refine AW.block ?_ | (refine (_root_.id : AW _ _ _ (.region 13 _ true) _ _ → _) ?_; refine AW.draw (id := 13) tab_ok mixed [0, 1, 2, 3, 4, 5, 9, 10, 11, 12, 6, 7, 8, 13, 14, 15] (by kernel_rfl) ?_; conv => whnf) | (refine (_root_.id : AW _ _ _ (.region 15 _ true) _ _ → _) ?_; refine AW.draw (id := 15) tab_ok mixed [0, 1, 2, 3, 4, 5, 6, 7, 8, 9, 13, 14, 18, 19, 20, 21, 10, 11, 12, 15, 16, 17, 22, 23, 24] (by kernel_rfl) ?_; conv => whnf) | (refine (_root_.id : AW _ _ _ (.region 17 _ true) _ _ → _) ?_; refine AW.draw (id := 17) tab_ok mixed [0, 1, 2, 3, 6, 7, 8, 9, 4, 5, 10, 11, 12, 13] (by kernel_rfl) ?_; conv => whnf) | (refine (_root_.id : AW _ _ _ (.region 19 _ true) _ _ → _) ?_; refine AW.draw (id := 19) tab_ok mixed [0, 1, 2, 3, 4, 5, 9, 10, 11, 12, 16, 17, 18, 19, 6, 7, 8, 13, 14, 15, 20, 21, 22] (by kernel_rfl) ?_; conv => whnf) | (refine (_root_.id : AW _ _ _ (.region 21 _ true) _ _ → _) ?_; refine AW.draw (id := 21) tab_ok mixed [0, 1, 2, 3, 7, 8, 9, 10, 14, 15, 16, 17, 4, 5, 6, 11, 12, 13, 18, 19, 20] (by kernel_rfl) ?_; conv => whnf) | (refine (_root_.id : AW _ _ _ (.region 23 _ true) _ _ → _) ?_; refine AW.draw (id := 23) tab_ok mixed [0, 1, 2, 3, 7, 8, 9, 10, 4, 5, 6, 11, 12, 13, 14] (by kernel_rfl) ?_; conv => whnf) | (refine (_root_.id : AW _ _ _ (.region 29 _ true) _ _ → _) ?_; refine AW.draw (id := 29) tab_ok mixed [0, 1, 5, 6, 7, 8, 2, 3, 4, 9, 10, 11] (by kernel_rfl) ?_; conv => whnf) | (refine (_root_.id : AW _ _ _ (.region 31 _ true) _ _ → _) ?_; refine AW.draw (id := 31) tab_ok mixed [0, 1, 5, 6, 7, 8, 2, 3, 4, 9, 10, 11] (by kernel_rfl) ?_; conv => whnf) | (refine (_root_.id : AW _ _ _ (.region 33 _ true) _ _ → _) ?_; refine AW.draw (id := 33) tab_ok mixed [0, 1, 2, 3, 7, 8, 11, 12, 13, 14, 18, 19, 22, 23, 24, 25, 4, 5, 6, 9, 10, 15, 16, 17, 20, 21, 26, 27, 28] (by kernel_rfl) ?_; conv => whnf) | (refine (_root_.id : AW _ _ _ (.region 35 _ true) _ _ → _) ?_; refine AW.draw (id := 35) tab_ok mixed [0, 1, 2, 3, 6, 7, 4, 5, 8, 9, 10] (by kernel_rfl) ?_; conv => whnf) | ((first | refine AW.region tab_ok ?_ | refine AW.cond ?_ | refine AW.skip ?_ | refine AW.ret ?_ | refine AW.exit ?_); conv => whnf) | (refine (c1).mono ?_; rintro _ _ ⟨rfl, rfl⟩; conv => whnf) | ((first | refine And.intro (@rfl Val _) ?_ | refine And.intro (by decide) ?_ | refine cs (fun _ => ?_) (fun _ => ?_)) <;> conv => whnf)
    all_goals first | exact ⟨rfl, rfl⟩ | (refine ⟨retS (ba_eq ?_), rfl⟩; simp [ba_app, bw_list, joinW_cons, joinW_app, joinW_one]; done)
set_option maxRecDepth 10000 in
set_option maxHeartbeats 2000000 in
theorem rop_15 (name arg : ByteArray) (num : Int) (tk : Int) (tks : List Ty) (uk : Int) (uks : List Ty) (label place : Int) (x y : Tm) (ht : tmright (.node 15 name arg num tk tks uk uks label place [x, y]) = true) (cx : RAtC x) (cy : RAtC y) : RWordsC 84 (.node 15 name arg num tk tks uk uks label place [x, y]) := by
  intro hb
  have hS := rS15 ht
  have hW : tmW (.node 15 name arg num tk tks uk uks label place [x, y]) = tmA (if tmS (.node 15 name arg num tk tks uk uks label place [x, y]) = 1 then 2 else tmS (.node 15 name arg num tk tks uk uks label place [x, y])) x ++ [name] ++ tmA (tmS (.node 15 name arg num tk tks uk uks label place [x, y]) + 1) y := rfl
  rw [hW] at hb ⊢
  clear hW
  generalize tmS (.node 15 name arg num tk tks uk uks label place [x, y]) = s at hS hb ⊢
  have dx := cx.2 (if s = 1 then 2 else s)
  have dy := cy.2 (s + 1)
  have hx := cx.1 (if s = 1 then 2 else s)
  have hy := cy.1 (s + 1)
  have ex := joinW_le (tmA (if s = 1 then 2 else s) x)
  have ey := joinW_le (tmA (s + 1) y)
  generalize tmA (if s = 1 then 2 else s) x = sx at hb dx hx ex ⊢
  generalize tmA (s + 1) y = sy at hb dy hy ey ⊢
  simp only [wsum_app, wsum_cons, wsum_nil] at hb
  have dx := dx (by omega)
  have dy := dy (by omega)
  obtain ⟨x0, x1, x2, x3, x4, x5, x6, x7, x8, x9, x10⟩ := x
  obtain ⟨y0, y1, y2, y3, y4, y5, y6, y7, y8, y9, y10⟩ := y
  clear cx cy
  cases g1 : (decide (name = ⟨#[42]⟩) || decide (name = ⟨#[47]⟩)) with
  | true =>
    rw [g1, if_pos rfl] at hS
    subst hS
    refine ACall.body tab_ok (ρ := 0) (N := 59) Tryd.func84 rfl rfl rfl rfl rfl ?_
    repeat' first | ((refine And.intro (by simp only [ByteArray.size_append, bw_size, bwl, List.length_cons, List.length_nil]; omega : (_ : Nat) ≤ 9223372036854775807) ?_; conv => whnf)) | ((refine And.intro (⟨by decide, by first | decide | (simp [Tm.rows]; done) | (simp [Tm.rows]; decide)⟩ : _ ∧ _) ?_; conv => whnf)) | ((intro row hrow; obtain rfl := Option.some.inj hrow; conv => whnf)) | refine AW.seq ?_ | refine AW.block ?_ | (refine (_root_.id : AW _ _ _ (.region 4 _ true) _ _ → _) ?_; refine AW.draw (id := 4) tab_ok mixed [0, 1, 2, 3, 6, 7, 10, 11, 12, 13, 4, 5, 8, 9, 14, 15, 16] (by kernel_rfl) ?_; conv => whnf) | (refine (_root_.id : AW _ _ _ (.region 7 _ true) _ _ → _) ?_; refine AW.draw (id := 7) tab_ok mixed [0, 1, 2, 3, 6, 7, 10, 11, 12, 13, 4, 5, 8, 9, 14, 15, 16] (by kernel_rfl) ?_; conv => whnf) | (refine (_root_.id : AW _ _ _ (.region 8 _ true) _ _ → _) ?_; refine AW.draw (id := 8) tab_ok mixed [0, 1, 2, 3, 6, 7, 10, 11, 12, 13, 4, 5, 8, 9, 14, 15, 16] (by kernel_rfl) ?_; conv => whnf) | ((first | refine AW.region tab_ok ?_ | refine AW.cond ?_ | refine AW.skip ?_ | refine AW.ret ?_ | refine AW.exit ?_); conv => whnf) | ((first | refine (dx).mono ?_ | refine (dy).mono ?_); rintro _ _ ⟨rfl, rfl⟩; conv => whnf) | ((first | refine And.intro (@rfl Val _) ?_ | refine And.intro (by decide) ?_ | refine cs (fun _ => ?_) (fun _ => ?_)) <;> conv => whnf)
    all_goals first | (refine ⟨retS (ba_eq ?_), rfl⟩; simp [ba_app, bw_list, joinW_cons, joinW_app, joinW_one, hx, hy]; done) | (exfalso; clear dx dy; simp_all; done)
  | false =>
    rw [g1, if_neg (by decide)] at hS
    cases g2 : (decide (name = ⟨#[43]⟩) || decide (name = ⟨#[45]⟩)) with
    | true =>
      rw [g2, if_pos rfl] at hS
      subst hS
      refine ACall.body tab_ok (ρ := 0) (N := 59) Tryd.func84 rfl rfl rfl rfl rfl ?_
      repeat' first | ((refine And.intro (by simp only [ByteArray.size_append, bw_size, bwl, List.length_cons, List.length_nil]; omega : (_ : Nat) ≤ 9223372036854775807) ?_; conv => whnf)) | ((refine And.intro (⟨by decide, by first | decide | (simp [Tm.rows]; done) | (simp [Tm.rows]; decide)⟩ : _ ∧ _) ?_; conv => whnf)) | ((intro row hrow; obtain rfl := Option.some.inj hrow; conv => whnf)) | refine AW.seq ?_ | refine AW.block ?_ | (refine (_root_.id : AW _ _ _ (.region 4 _ true) _ _ → _) ?_; refine AW.draw (id := 4) tab_ok mixed [0, 1, 2, 3, 6, 7, 10, 11, 12, 13, 4, 5, 8, 9, 14, 15, 16] (by kernel_rfl) ?_; conv => whnf) | (refine (_root_.id : AW _ _ _ (.region 7 _ true) _ _ → _) ?_; refine AW.draw (id := 7) tab_ok mixed [0, 1, 2, 3, 6, 7, 10, 11, 12, 13, 4, 5, 8, 9, 14, 15, 16] (by kernel_rfl) ?_; conv => whnf) | (refine (_root_.id : AW _ _ _ (.region 8 _ true) _ _ → _) ?_; refine AW.draw (id := 8) tab_ok mixed [0, 1, 2, 3, 6, 7, 10, 11, 12, 13, 4, 5, 8, 9, 14, 15, 16] (by kernel_rfl) ?_; conv => whnf) | ((first | refine AW.region tab_ok ?_ | refine AW.cond ?_ | refine AW.skip ?_ | refine AW.ret ?_ | refine AW.exit ?_); conv => whnf) | ((first | refine (dx).mono ?_ | refine (dy).mono ?_); rintro _ _ ⟨rfl, rfl⟩; conv => whnf) | ((first | refine And.intro (@rfl Val _) ?_ | refine And.intro (by decide) ?_ | refine cs (fun _ => ?_) (fun _ => ?_)) <;> conv => whnf)
      all_goals first | (refine ⟨retS (ba_eq ?_), rfl⟩; simp [ba_app, bw_list, joinW_cons, joinW_app, joinW_one, hx, hy]; done) | (exfalso; clear dx dy; simp_all; done)
    | false =>
      rw [g2, if_neg (by decide)] at hS
      subst hS
      refine ACall.body tab_ok (ρ := 0) (N := 59) Tryd.func84 rfl rfl rfl rfl rfl ?_
      repeat' first | ((refine And.intro (by simp only [ByteArray.size_append, bw_size, bwl, List.length_cons, List.length_nil]; omega : (_ : Nat) ≤ 9223372036854775807) ?_; conv => whnf)) | ((refine And.intro (⟨by decide, by first | decide | (simp [Tm.rows]; done) | (simp [Tm.rows]; decide)⟩ : _ ∧ _) ?_; conv => whnf)) | ((intro row hrow; obtain rfl := Option.some.inj hrow; conv => whnf)) | refine AW.seq ?_ | refine AW.block ?_ | (refine (_root_.id : AW _ _ _ (.region 4 _ true) _ _ → _) ?_; refine AW.draw (id := 4) tab_ok mixed [0, 1, 2, 3, 6, 7, 10, 11, 12, 13, 4, 5, 8, 9, 14, 15, 16] (by kernel_rfl) ?_; conv => whnf) | (refine (_root_.id : AW _ _ _ (.region 7 _ true) _ _ → _) ?_; refine AW.draw (id := 7) tab_ok mixed [0, 1, 2, 3, 6, 7, 10, 11, 12, 13, 4, 5, 8, 9, 14, 15, 16] (by kernel_rfl) ?_; conv => whnf) | (refine (_root_.id : AW _ _ _ (.region 8 _ true) _ _ → _) ?_; refine AW.draw (id := 8) tab_ok mixed [0, 1, 2, 3, 6, 7, 10, 11, 12, 13, 4, 5, 8, 9, 14, 15, 16] (by kernel_rfl) ?_; conv => whnf) | ((first | refine AW.region tab_ok ?_ | refine AW.cond ?_ | refine AW.skip ?_ | refine AW.ret ?_ | refine AW.exit ?_); conv => whnf) | ((first | refine (dx).mono ?_ | refine (dy).mono ?_); rintro _ _ ⟨rfl, rfl⟩; conv => whnf) | ((first | refine And.intro (@rfl Val _) ?_ | refine And.intro (by decide) ?_ | refine cs (fun _ => ?_) (fun _ => ?_)) <;> conv => whnf)
      all_goals first | (refine ⟨retS (ba_eq ?_), rfl⟩; simp [ba_app, bw_list, joinW_cons, joinW_app, joinW_one, hx, hy]; done) | (exfalso; clear dx dy; simp_all; done)

set_option maxRecDepth 10000 in
theorem rwords_15 (name arg : ByteArray) (num : Int) (tk : Int) (tks : List Ty) (uk : Int) (uks : List Ty) (label place : Int) (ks : List Tm) (h : RWordsC 84 (Tm.node 15 name arg num tk tks uk uks label place ks)) : RWordsC 49 (Tm.node 15 name arg num tk tks uk uks label place ks) := by
  intro hb
  have d := h hb
  generalize joinW (tmW (Tm.node 15 name arg num tk tks uk uks label place ks)) = s at *
  refine ACall.body tab_ok (ρ := 0) (N := 232) Tryd.func49 rfl rfl rfl rfl rfl ?_
  repeat' first | refine AW.seq ?_ | refine AW.block ?_ | (refine (_root_.id : AW _ _ _ (.region 13 _ true) _ _ → _) ?_; refine AW.draw (id := 13) tab_ok mixed [0, 1, 2, 3, 4, 5, 9, 10, 11, 12, 6, 7, 8, 13, 14, 15] (by kernel_rfl) ?_; conv => whnf) | (refine (_root_.id : AW _ _ _ (.region 15 _ true) _ _ → _) ?_; refine AW.draw (id := 15) tab_ok mixed [0, 1, 2, 3, 4, 5, 6, 7, 8, 9, 13, 14, 18, 19, 20, 21, 10, 11, 12, 15, 16, 17, 22, 23, 24] (by kernel_rfl) ?_; conv => whnf) | (refine (_root_.id : AW _ _ _ (.region 17 _ true) _ _ → _) ?_; refine AW.draw (id := 17) tab_ok mixed [0, 1, 2, 3, 6, 7, 8, 9, 4, 5, 10, 11, 12, 13] (by kernel_rfl) ?_; conv => whnf) | (refine (_root_.id : AW _ _ _ (.region 19 _ true) _ _ → _) ?_; refine AW.draw (id := 19) tab_ok mixed [0, 1, 2, 3, 4, 5, 9, 10, 11, 12, 16, 17, 18, 19, 6, 7, 8, 13, 14, 15, 20, 21, 22] (by kernel_rfl) ?_; conv => whnf) | (refine (_root_.id : AW _ _ _ (.region 21 _ true) _ _ → _) ?_; refine AW.draw (id := 21) tab_ok mixed [0, 1, 2, 3, 7, 8, 9, 10, 14, 15, 16, 17, 4, 5, 6, 11, 12, 13, 18, 19, 20] (by kernel_rfl) ?_; conv => whnf) | (refine (_root_.id : AW _ _ _ (.region 23 _ true) _ _ → _) ?_; refine AW.draw (id := 23) tab_ok mixed [0, 1, 2, 3, 7, 8, 9, 10, 4, 5, 6, 11, 12, 13, 14] (by kernel_rfl) ?_; conv => whnf) | (refine (_root_.id : AW _ _ _ (.region 29 _ true) _ _ → _) ?_; refine AW.draw (id := 29) tab_ok mixed [0, 1, 5, 6, 7, 8, 2, 3, 4, 9, 10, 11] (by kernel_rfl) ?_; conv => whnf) | (refine (_root_.id : AW _ _ _ (.region 31 _ true) _ _ → _) ?_; refine AW.draw (id := 31) tab_ok mixed [0, 1, 5, 6, 7, 8, 2, 3, 4, 9, 10, 11] (by kernel_rfl) ?_; conv => whnf) | (refine (_root_.id : AW _ _ _ (.region 33 _ true) _ _ → _) ?_; refine AW.draw (id := 33) tab_ok mixed [0, 1, 2, 3, 7, 8, 11, 12, 13, 14, 18, 19, 22, 23, 24, 25, 4, 5, 6, 9, 10, 15, 16, 17, 20, 21, 26, 27, 28] (by kernel_rfl) ?_; conv => whnf) | (refine (_root_.id : AW _ _ _ (.region 35 _ true) _ _ → _) ?_; refine AW.draw (id := 35) tab_ok mixed [0, 1, 2, 3, 6, 7, 4, 5, 8, 9, 10] (by kernel_rfl) ?_; conv => whnf) | ((first | refine AW.region tab_ok ?_ | refine AW.cond ?_ | refine AW.skip ?_ | refine AW.ret ?_ | refine AW.exit ?_); conv => whnf) | (refine (d).mono ?_; rintro _ _ ⟨rfl, rfl⟩; conv => whnf) | ((first | refine And.intro (@rfl Val _) ?_ | refine And.intro (by decide) ?_ | refine cs (fun _ => ?_) (fun _ => ?_)) <;> conv => whnf)
  all_goals first | exact ⟨rfl, rfl⟩
set_option maxRecDepth 10000 in
theorem rat_step (t : Tm) (ht : tmright t = true) (hbad : tmBad t = false) (h : RWordsC 49 t) : RAtC t := by
  refine ⟨fun least => tmA_ne least t ht hbad, fun least hb => ?_⟩
  have c1 := rstrength05_call t ht hbad
  have hne := tmW_ne t ht hbad
  by_cases hl : tmS t ≥ least
  · have hd : decide (tmS t ≥ least) = true := by simp [hl]
    have hA : tmA least t = tmW t := by unfold tmA wbr; rw [if_pos hl]
    rw [hA] at hb ⊢
    have d := h hb
    generalize joinW (tmW t) = s at *
    generalize tmS t = r at *
    clear h hb hA hne hbad ht
    obtain ⟨k, name, arg, num, tk, tks, uk, uks, label, place, ks⟩ := t
    refine ACall.body tab_ok (ρ := 0) (N := 15) Tryd.func24 rfl rfl rfl rfl rfl ?_
    repeat' first | ((rw [hd]; conv => whnf)) | refine AW.seq ?_ | refine AW.block ?_ | ((first | refine AW.region tab_ok ?_ | refine AW.cond ?_ | refine AW.skip ?_ | refine AW.ret ?_ | refine AW.exit ?_); conv => whnf) | ((first | refine (c1).mono ?_ | refine (d).mono ?_); rintro _ _ ⟨rfl, rfl⟩; conv => whnf) | ((first | refine And.intro (@rfl Val _) ?_ | refine And.intro (by decide) ?_ | refine cs (fun _ => ?_) (fun _ => ?_)) <;> conv => whnf)
    all_goals first | exact ⟨rfl, rfl⟩
  · have hd : decide (tmS t ≥ least) = false := by simp [hl]
    have hA : tmA least t = [bw [40]] ++ tmW t ++ [bw [41]] := by unfold tmA wbr; rw [if_neg hl]
    rw [hA] at hb ⊢
    simp only [wsum_app, wsum_cons, wsum_nil] at hb
    have d := h (by omega)
    have ew := joinW_le (tmW t)
    generalize tmW t = s at *
    generalize tmS t = r at *
    clear h hA hbad ht
    obtain ⟨k, name, arg, num, tk, tks, uk, uks, label, place, ks⟩ := t
    refine ACall.body tab_ok (ρ := 0) (N := 15) Tryd.func24 rfl rfl rfl rfl rfl ?_
    repeat' first | ((rw [hd]; conv => whnf)) | ((refine And.intro (by simp only [ByteArray.size_append, bw_size, bwl, List.length_cons, List.length_nil]; omega : (_ : Nat) ≤ 9223372036854775807) ?_; conv => whnf)) | refine AW.seq ?_ | refine AW.block ?_ | ((first | refine AW.region tab_ok ?_ | refine AW.cond ?_ | refine AW.skip ?_ | refine AW.ret ?_ | refine AW.exit ?_); conv => whnf) | ((first | refine (c1).mono ?_ | refine (d).mono ?_); rintro _ _ ⟨rfl, rfl⟩; conv => whnf) | ((first | refine And.intro (@rfl Val _) ?_ | refine And.intro (by decide) ?_ | refine cs (fun _ => ?_) (fun _ => ?_)) <;> conv => whnf)
    all_goals first | exact ⟨rfl, rfl⟩ | (refine ⟨retS (ba_eq ?_), rfl⟩; simp [ba_app, bw_list, joinW_cons, joinW_app, joinW_one, hne]; done)
theorem rat_all (t : Tm) : tmright t = true → tmInR t → tmBad t = false → RAtC t := by
  induction t using Tm.ind with
  | _ k name arg num tk tks uk uks label place ks ih =>
  intro hr hn hb
  obtain ⟨b1, b2, b3⟩ := tmBad_own hb
  have hv := tmright_valid hr
  have hl := tmright_len hr
  have hk : ∀ t ∈ ks, RAtC t := fun t ht => ih t ht (tmright_kid hr ht) (tmInRs_mem ks t ht hn.2) (tmBads_mem' b3 ht)
  refine rat_step _ hr hb ?_
  have hn1 : NumR num := hn.1
  clear ih hb b3
  rcases kinds k hv with rfl | rfl | rfl | rfl | rfl | rfl | rfl | rfl | rfl | rfl | rfl | rfl | rfl | rfl | rfl | rfl | rfl | rfl
  · obtain rfl := len0 hl; exact rwords_0 _ _ _ _ _ _ _ _ _ hr
  · obtain rfl := len0 hl; exact rwords_1 _ _ _ _ _ _ _ _ _ hn1 (b2 rfl)
  · obtain rfl := len0 hl; exact rwords_2 _ _ _ _ _ _ _ _ _ hr
  · obtain rfl := len0 hl; exact rwords_3 _ _ _ _ _ _ _ _ _ hr
  · obtain ⟨x, rfl⟩ := len1 hl; exact rwords_4 _ _ _ _ _ _ _ _ _ _ hr (hk x (by simp))
  · obtain ⟨x, rfl⟩ := len1 hl; exact rwords_5 _ _ _ _ _ _ _ _ _ _ hr (hk x (by simp))
  · obtain ⟨x, y, rfl⟩ := len2' hl; exact rwords_6 _ _ _ _ _ _ _ _ _ _ _ hr (hk x (by simp)) (hk y (by simp))
  · obtain ⟨x, y, rfl⟩ := len2' hl; exact rwords_7 _ _ _ _ _ _ _ _ _ _ _ hr (hk x (by simp)) (hk y (by simp))
  · obtain ⟨x, y, z, rfl⟩ := len3 hl; exact rwords_8 _ _ _ _ _ _ _ _ _ _ _ _ hr (hk x (by simp)) (hk y (by simp)) (hk z (by simp))
  · obtain ⟨x, y, rfl⟩ := len2' hl; exact rwords_9 _ _ _ _ _ _ _ _ _ _ _ hr (hk x (by simp)) (hk y (by simp))
  · obtain ⟨x, rfl⟩ := len1 hl; exact rwords_10 _ _ _ _ _ _ _ _ _ _ hr (hk x (by simp))
  · obtain ⟨x, rfl⟩ := len1 hl; exact rwords_11 _ _ _ _ _ _ _ _ _ _ hr (hk x (by simp))
  · obtain ⟨x, rfl⟩ := len1 hl; exact rwords_12 _ _ _ _ _ _ _ _ _ _ hr (hk x (by simp))
  · obtain ⟨x, rfl⟩ := len1 hl; exact rwords_13 _ _ _ _ _ _ _ _ _ _ hr (hk x (by simp))
  · obtain ⟨x, y, z, rfl⟩ := len3 hl; exact rwords_14 _ _ _ _ _ _ _ _ _ _ _ _ hr (hk x (by simp)) (hk y (by simp)) (hk z (by simp))
  · obtain ⟨x, y, rfl⟩ := len2' hl; exact rwords_15 _ _ _ _ _ _ _ _ _ _ (rop_15 _ _ _ _ _ _ _ _ _ _ _ hr (hk x (by simp)) (hk y (by simp)))
  · obtain ⟨x, rfl⟩ := len1 hl; exact rwords_16 _ _ _ _ _ _ _ _ _ _ hr (hk x (by simp))
  · exact absurd rfl b1
end Go.Proofs.YthmbncehoblgpaaDoor.E

/- Walks: the document's Text; the law ShowText. No conditions. -/
set_option linter.unusedVariables false
set_option linter.unusedSimpArgs false
namespace Go.Proofs.YthmbncehoblgpaaDoor.E
open Go

mutual
theorem tmBad_or : ∀ t : Tm, tmBad t = (tmhas 17 t || tmLeast t)
  | .node k name arg num tk tks uk uks label place ks => by
    have h := tmBads_or ks
    simp only [tmBad, tmhas, tmLeast, h]
    cases decide (k = 17) <;> cases (decide (k = 1) && decide (num = -9223372036854775808)) <;> cases tmhass 17 ks <;> rfl
theorem tmBads_or : ∀ l : List Tm, tmBads l = (tmhass 17 l || tmLeasts l)
  | [] => rfl
  | t :: l => by
    have h1 := tmBad_or t
    have h2 := tmBads_or l
    simp only [tmBads, tmhass, tmLeasts, h1, h2]
    cases tmhas 17 t <;> cases tmLeast t <;> cases tmhass 17 l <;> rfl
end
set_option maxRecDepth 10000 in
set_option maxHeartbeats 2000000 in
theorem rtold_call (t : Tm) (hn : tmInR t) : ACall Tryd.prog 10 [t.val] [] (fun o σ => o = toldV t ∧ σ = []) := by
  have c1 := rtmCheck_call t
  unfold toldV toldF
  by_cases h : tmcheck t = 0
  · rw [if_pos h]
    rw [h] at c1
    obtain ⟨hN, hr⟩ := tmcheck_ok h
    have c2 := rhas_call 17 t hN
    have c3 := rleast_call t hN
    have hor := tmBad_or t
    cases hb : tmBad t with
    | true =>
      rw [hb] at hor
      generalize tmhas 17 t = x at *
      generalize tmLeast t = y at *
      clear hn h hr hN hb
      obtain ⟨k, name, arg, num, tk, tks, uk, uks, label, place, ks⟩ := t
      cases x <;> cases y
      · cases hor
      all_goals
        refine ACall.body tab_ok (ρ := 0) (N := 23) Tryd.func10 rfl rfl rfl rfl rfl ?_
        repeat' first | refine AW.seq ?_ | refine AW.block ?_ | ((first | refine AW.region tab_ok ?_ | refine AW.cond ?_ | refine AW.skip ?_ | refine AW.ret ?_ | refine AW.exit ?_); conv => whnf) | ((first | refine (c1).mono ?_ | refine (c2).mono ?_ | refine (c3).mono ?_); rintro _ _ ⟨rfl, rfl⟩; conv => whnf) | ((first | refine And.intro (@rfl Val _) ?_ | refine And.intro (by decide) ?_ | refine cs (fun _ => ?_) (fun _ => ?_)) <;> conv => whnf)
        all_goals first | exact ⟨rfl, rfl⟩
    | false =>
      rw [hb] at hor
      rw [if_neg (by decide)]
      have hw := tmA_wsum (-1) t hr hn hb
      have hj := joinW_le (tmA (-1) t)
      have c4 := (rat_all t hr hn hb).2 (-1) (by omega)
      generalize tmA (-1) t = ws at *
      have hsz : (bw (joinW ws)).size = (joinW ws).length := rfl
      generalize joinW ws = j at *
      generalize tmhas 17 t = x at *
      generalize tmLeast t = y at *
      clear hn h hr hN hb
      obtain ⟨k, name, arg, num, tk, tks, uk, uks, label, place, ks⟩ := t
      obtain ⟨rfl, rfl⟩ : x = false ∧ y = false := by simpa using hor.symm
      refine ACall.body tab_ok (ρ := 0) (N := 23) Tryd.func10 rfl rfl rfl rfl rfl ?_
      repeat' first | refine AW.seq ?_ | refine AW.block ?_ | ((first | refine AW.region tab_ok ?_ | refine AW.cond ?_ | refine AW.skip ?_ | refine AW.ret ?_ | refine AW.exit ?_); conv => whnf) | ((first | refine (c1).mono ?_ | refine (c2).mono ?_ | refine (c3).mono ?_ | refine (c4).mono ?_); rintro _ _ ⟨rfl, rfl⟩; conv => whnf) | ((first | refine And.intro (@rfl Val _) ?_ | refine And.intro (by decide) ?_ | refine cs (fun _ => ?_) (fun _ => ?_)) <;> conv => whnf)
      · rename_i h3
        have := of_decide_eq_true h3
        rw [if_pos (by omega)]
        exact ⟨rfl, rfl⟩
      · rename_i h3
        have := of_decide_eq_false h3
        rw [if_neg (by omega)]
        exact ⟨rfl, rfl⟩
  · rw [if_neg h]
    generalize tmcheck t = e at *
    obtain ⟨k, name, arg, num, tk, tks, uk, uks, label, place, ks⟩ := t
    refine ACall.body tab_ok (ρ := 0) (N := 23) Tryd.func10 rfl rfl rfl rfl rfl ?_
    repeat' first | refine AW.seq ?_ | refine AW.block ?_ | ((first | refine AW.region tab_ok ?_ | refine AW.cond ?_ | refine AW.skip ?_ | refine AW.ret ?_ | refine AW.exit ?_); conv => whnf) | (refine (c1).mono ?_; rintro _ _ ⟨rfl, rfl⟩; conv => whnf) | ((first | refine And.intro (@rfl Val _) ?_ | refine And.intro (by decide) ?_ | refine cs (fun _ => ?_) (fun _ => ?_)) <;> conv => whnf)
    all_goals first | exact ⟨rfl, rfl⟩ | (rename_i h3; exact absurd (by simpa using h3) h)
set_option maxRecDepth 10000 in
theorem law_ShowText (t : Tm) (hn : tmInR t) : ACall Tryd.prog 4 [t.val] [] (fun o σ => o = .ret (.c (.d (.bool true))) ∧ σ = []) := by
  have c1 := told_call t hn
  have c2 := rtold_call t hn
  unfold toldV at c1 c2
  generalize toldF t = r at *
  clear hn
  obtain ⟨s, e⟩ := r
  obtain ⟨k, name, arg, num, tk, tks, uk, uks, label, place, ks⟩ := t
  refine ACall.body tab_ok (ρ := 0) (N := 25) Tryd.func4 rfl rfl rfl rfl rfl ?_
  repeat' first | refine AW.seq ?_ | refine AW.block ?_ | ((first | refine AW.region tab_ok ?_ | refine AW.cond ?_ | refine AW.skip ?_ | refine AW.ret ?_ | refine AW.exit ?_); conv => whnf) | ((first | refine (c1).mono ?_ | refine (c2).mono ?_); rintro _ _ ⟨rfl, rfl⟩; conv => whnf) | ((first | refine And.intro (@rfl Val _) ?_ | refine And.intro (by decide) ?_ | refine cs (fun _ => ?_) (fun _ => ?_)) <;> conv => whnf)
  all_goals first | exact ⟨rfl, rfl⟩ | (refine ⟨outb ?_, rfl⟩; simp_all; done)
end Go.Proofs.YthmbncehoblgpaaDoor.E

/- From a row's reading of an argument to a tree. No conditions. -/
set_option linter.unusedVariables false
set_option linter.unusedSimpArgs false
namespace Go.Proofs.YthmbncehoblgpaaDoor.E
open Go Go.RowKit

/-- All that was there is one region. -/
def rgAll (w : World) : Nat → Option Nat := fun b => if b < w.heap.size then some 0 else none
def czAll (w : World) : Cz := ⟨[], rgAll w⟩
theorem inv_all (w : World) (hg : GlobOk w (czAll w) := by intro a v h; simp [globs] at h) : Inv w (czAll w) [] :=
  ⟨rfl, fun i o e h => by simp at h, fun i o e b h => by simp at h, fun i j o p e f b h => by simp at h, fun b r h => (by
    simp only [czAll, rgAll] at h
    split at h
    · assumption
    · cases h), hg⟩

theorem cell_parts {w : World} {a : Addr} {v : Value} (h : w.cell? a = some v) : a.spot = none ∧ ∃ cs e fz, w.heap[a.block]? = some (.cells cs e fz) ∧ cs[a.off]? = some v := by
  have hs := World.cell?_spot h
  refine ⟨hs, ?_⟩
  unfold World.cell? at h
  split at h
  · rename_i cs e fz hh
    exact ⟨cs, e, fz, hh, by simpa [hs] using h⟩
  · cases h

noncomputable def fld (t i : Nat) : Field := match Tryd.prog.underlying t with
  | some (.struct fs) => fs.getD i default
  | _ => default
theorem u30 : Tryd.prog.underlying 26 = some (.struct #[fld 26 0, fld 26 1]) := by kernel_rfl
theorem f30_0 : (fld 26 0).type = 23 ∧ (fld 26 0).offset = 0 := ⟨by kernel_rfl, by kernel_rfl⟩
theorem f30_1 : (fld 26 1).type = 24 ∧ (fld 26 1).offset = 1 := ⟨by kernel_rfl, by kernel_rfl⟩
theorem u28 : Tryd.prog.underlying 24 = some (.slice 26) := by kernel_rfl
theorem u27 : Tryd.prog.underlying 23 = some (.int .i8) := by kernel_rfl
theorem c30 : Tryd.prog.cellsOf 26 = 2 := by kernel_rfl
theorem c28 : Tryd.prog.cellsOf 24 = 1 := by kernel_rfl
theorem c27 : Tryd.prog.cellsOf 23 = 1 := by kernel_rfl

/-- The cells of a value stand for the data. -/
def Stand (w : World) (cs : List Value) (xs : List DV) : Prop := cs.length = xs.length ∧ ∀ (i : Nat) v x, cs[i]? = some v → xs[i]? = some x → RepD w (rgAll w) v x

section
variable {H : Type} {enc : TypeId × Value → H} {w : World} {base : Nat} {spare : Nat → Bool} {held : Bool}

theorem list_of {α : Type} {Q : Nat → α → Prop} : ∀ n, (∀ i, i < n → ∃ x, Q i x) → ∃ xs : List α, xs.length = n ∧ ∀ (i : Nat) x, xs[i]? = some x → Q i x
  | 0, _ => ⟨[], rfl, fun i x h => by simp at h⟩
  | n + 1, h => by
    obtain ⟨xs, h1, h2⟩ := list_of n (fun i hi => h i (by omega))
    obtain ⟨x, hx⟩ := h n (by omega)
    refine ⟨xs ++ [x], by simp [h1], fun i y hy => ?_⟩
    by_cases hi : i < n
    · rw [List.getElem?_append_left (by omega)] at hy
      exact h2 i y hy
    · rw [List.getElem?_append_right (by omega)] at hy
      cases he : i - xs.length with
      | zero =>
        rw [he] at hy
        simp at hy
        subst hy
        obtain rfl : i = n := by omega
        exact hx
      | succ k => rw [he] at hy; simp at hy

theorem add_none (b o k : Nat) : (⟨b, o, none⟩ : Addr).add k = ⟨b, o + k, none⟩ := by
  unfold Addr.add
  split
  · rename_i h; subst h; rfl
  · rfl

/-- A slice, from its elements. -/
theorem stand_slice {α : Type} (sz : Nat) (hsz : 0 < sz) (f : α → List DV) (hf : ∀ x, (f x).length = sz) {a : Addr} {len cap : Nat} (hlc : len ≤ cap) (h : ∀ i, i < len → ∃ x cs, w.cells? base (a.add (i * sz)) sz = some cs ∧ Stand w cs (f x)) :
    ∃ xs : List α, xs.length = len ∧ RepD w (rgAll w) (.slice (some a) len cap) (.sl 0 sz (xs.map f)) := by
  obtain ⟨xs, hx1, hx2⟩ := list_of len h
  refine ⟨xs, hx1, ?_⟩
  cases xs with
  | nil =>
    simp at hx1
    subst hx1
    exact .sl0 (some a) 0 sz cap
  | cons x0 xr =>
    obtain ⟨cs0, g1, g2⟩ := hx2 0 x0 rfl
    obtain ⟨_, g3, g4⟩ := World.cells?_some g1
    have hc0 := g4 0 hsz
    rw [List.getElem?_eq_getElem (by omega)] at hc0
    obtain ⟨k1, cs, e, fz, k2, k3⟩ := cell_parts hc0
    obtain ⟨b, o, spot⟩ := a
    have hspot : spot = none := by simpa [Addr.add] using k1
    subst hspot
    simp only [Nat.zero_mul, add_none, Nat.add_zero] at k2
    have hlt : b < w.heap.size := by
      rcases Nat.lt_or_ge b w.heap.size with h | h
      · exact h
      · rw [Array.getElem?_eq_none h] at k2; cases k2
    have hcell : ∀ (j i : Nat) x, (x0 :: xr)[j]? = some x → i < sz → ∃ v, cs[o + j * sz + i]? = some v ∧ ∀ y, (f x)[i]? = some y → RepD w (rgAll w) v y := fun j i x hj hi => by
      obtain ⟨cs', q1, q2, q3⟩ := hx2 j x hj
      obtain ⟨_, q4, q5⟩ := World.cells?_some q1
      have q6 := q5 i hi
      rw [List.getElem?_eq_getElem (by omega)] at q6
      obtain ⟨_, cs2, e2, fz2, r2, r3⟩ := cell_parts q6
      simp only [add_none] at r2 r3
      rw [k2] at r2
      cases r2
      exact ⟨_, r3, fun y hy => q3 i _ y (List.getElem?_eq_getElem (by omega)) hy⟩
    refine .sl 0 sz b o len cap _ cs e fz (fun j i => (cs[o + j * sz + i]?).getD undef) ⟨⟨0, by simp [rgAll, hlt], rfl, .inl rfl⟩, fun h => by rcases h with h | h <;> cases h⟩ k2 (by simpa using hx1.symm) hlc (fun row hr => ?_) (fun j i hj hi => ?_) (fun j i row y hj hi => ?_)
    · obtain ⟨x, _, rfl⟩ := List.mem_map.1 hr
      exact hf x
    · obtain ⟨v, hv, _⟩ := hcell j i _ (List.getElem?_eq_getElem (by omega)) hi
      rw [hv]; rfl
    · rw [List.getElem?_map] at hj
      cases hjx : (x0 :: xr)[j]? with
      | none => rw [hjx] at hj; cases hj
      | some x =>
        rw [hjx] at hj
        cases hj
        have hil : i < sz := by
          have := (List.getElem?_eq_some_iff.1 hi).1
          rw [hf] at this; exact this
        obtain ⟨v, hv, hr⟩ := hcell j i x hjx hil
        show RepD w (rgAll w) ((cs[o + j * sz + i]?).getD undef) y
        rw [hv]
        exact hr y hi

theorem rows_map : ∀ ks : List Ty, Ty.rows ks = ks.map Ty.cells
  | [] => rfl
  | t :: l => by simp [Ty.rows, rows_map l]
theorem cells_len (t : Ty) : t.cells.length = 2 := by cases t; rfl

set_option maxRecDepth 100000 in
theorem open_ty : ∀ (fuel : Nat) (cs : List Value) x, DataW.trod enc Tryd.prog w base spare held fuel 26 cs = some x → ∃ t : Ty, Stand w cs t.cells
  | 0, cs, x, h => by simp [DataW.trod] at h
  | fuel + 1, cs, x, h => by
    obtain ⟨xs, n, hn, _, hl, hxl, hf⟩ := DataW.trod_struct u30 h
    obtain rfl : fuel = n := by omega
    rw [c30] at hl
    obtain ⟨a, b, rfl⟩ : ∃ a b, cs = [a, b] := by
      match cs, hl with
      | [a, b], _ => exact ⟨a, b, rfl⟩
    have h0 := hf 0 (fld 26 0) rfl
    have h1 := hf 1 (fld 26 1) rfl
    rw [f30_0.1, f30_0.2, c27] at h0
    rw [f30_1.1, f30_1.2, c28] at h1
    have hx0 : 0 < xs.length := by rw [hxl]; exact Nat.zero_lt_succ _
    have hx1 : 1 < xs.length := by rw [hxl]; exact Nat.lt_succ_self _
    rw [List.getElem?_eq_getElem hx0] at h0
    rw [List.getElem?_eq_getElem hx1] at h1
    simp only [List.drop_zero, List.take_succ_cons, List.take_zero, List.drop_succ_cons] at h0 h1
    obtain ⟨k, hk, _, _⟩ := DataW.trod_int u27 h0
    cases hk
    have two : ∀ ks : List Ty, RepD w (rgAll w) b (.sl 0 2 (Ty.rows ks)) → ∃ t : Ty, Stand w [.int .i8 k, b] t.cells := fun ks hr =>
      ⟨.node k ks, rfl, fun i v y hv hy => by
        match i with
        | 0 => simp [Ty.cells] at hv hy; subst hv; subst hy; exact .int _ _
        | 1 => simp [Ty.cells] at hv hy; subst hv; subst hy; exact hr
        | i + 2 => simp at hv⟩
    rcases DataW.trod_slice u28 h1 with ⟨hb, _⟩ | ⟨a, len, cap, elems, rest, n, hn, hb, _, _, hlc, _, hel, hall, _⟩
    · cases hb
      exact two [] (.sl0 none 0 2 0)
    · cases hb
      rw [c30] at hall
      obtain ⟨ks, hks, hr⟩ := stand_slice (w := w) (base := base) 2 (by decide) Ty.cells cells_len (a := a) hlc (fun i hi => by
        have := hall i hi
        rw [List.getElem?_eq_getElem (by omega)] at this
        obtain ⟨cs', h2, h3⟩ := Option.bind_eq_some_iff.1 this
        obtain ⟨t, ht⟩ := open_ty n cs' _ h3
        exact ⟨t, cs', h2, ht⟩)
      exact two ks (by rw [rows_map]; exact hr)
  termination_by fuel => fuel
  decreasing_by all_goals omega
end

/-- What was there is as it was. -/
theorem below_same {w w' : World} (h : Below w.heap.size w w') {p : MemPlace} (hp : p.block < w.heap.size) : w.sameAt w' p := by
  cases p with
  | cell b off =>
    show w'.cell? _ = w.cell? _
    unfold World.cell?
    rw [h.block b hp]
  | map b => exact h.block b hp
end Go.Proofs.YthmbncehoblgpaaDoor.E

/- From a law's walk to its row: parts for all rows. No conditions. -/
namespace Go.Proofs.YthmbncehoblgpaaDoor.E
open Go Go.RowKit

theorem rep1 {w : World} {C : Cz} {u : Value} {x : Val} (h : RepV w C u x) : RepVs w C #[u].toList [x] := .cons h ⟨rfl, fun i v x h => by simp at h⟩
/-- A law that is true: as a call. -/
theorem law_true {P : Program} {f : FuncId} {args : List Val} (h : ACall P f args [] (fun o σ => o = .ret (.c (.d (.bool true))) ∧ σ = [])) {w : World} {vs : Array Value} (hv : RepVs w (czAll w) vs.toList args) (hg : GlobOk w (czAll w) := by intro a v h; simp [globs] at h) :
    Calls P f vs w fun e w' => e = .returned (.bool true) ∧ Below w.heap.size w w' :=
  (h.out w (czAll w) vs (inv_all w hg) hv).mono fun e w' ⟨o, σ', C', ⟨ho, hs⟩, hI, hX, hO⟩ => by
    subst ho; subst hs
    obtain ⟨v, rfl, hr⟩ := hO
    have := bool_of hr
    subst this
    exact ⟨rfl, hX.os, hX.tape, hX.output, hX.size, fun k hk => hX.frame k hk (fun ⟨i, o, e, h, _⟩ => by simp at h) (fun r hr => by simp only [czAll, rgAll] at hr; rw [if_pos hk] at hr; cases hr; rfl)⟩
end Go.Proofs.YthmbncehoblgpaaDoor.E

/- From a row's reading of a term to a tree. No conditions. -/
set_option linter.unusedVariables false
set_option linter.unusedSimpArgs false
namespace Go.Proofs.YthmbncehoblgpaaDoor.E
open Go Go.RowKit

theorem u39 : Tryd.prog.underlying 29 = some (.struct #[fld 29 0, fld 29 1, fld 29 2, fld 29 3, fld 29 4, fld 29 5, fld 29 6, fld 29 7, fld 29 8]) := by kernel_rfl
theorem f39_0 : (fld 29 0).type = 23 ∧ (fld 29 0).offset = 0 := ⟨by kernel_rfl, by kernel_rfl⟩
theorem f39_1 : (fld 29 1).type = 9 ∧ (fld 29 1).offset = 1 := ⟨by kernel_rfl, by kernel_rfl⟩
theorem f39_2 : (fld 29 2).type = 9 ∧ (fld 29 2).offset = 2 := ⟨by kernel_rfl, by kernel_rfl⟩
theorem f39_3 : (fld 29 3).type = 2 ∧ (fld 29 3).offset = 3 := ⟨by kernel_rfl, by kernel_rfl⟩
theorem f39_4 : (fld 29 4).type = 26 ∧ (fld 29 4).offset = 4 := ⟨by kernel_rfl, by kernel_rfl⟩
theorem f39_5 : (fld 29 5).type = 26 ∧ (fld 29 5).offset = 6 := ⟨by kernel_rfl, by kernel_rfl⟩
theorem f39_6 : (fld 29 6).type = 3 ∧ (fld 29 6).offset = 8 := ⟨by kernel_rfl, by kernel_rfl⟩
theorem f39_7 : (fld 29 7).type = 3 ∧ (fld 29 7).offset = 9 := ⟨by kernel_rfl, by kernel_rfl⟩
theorem f39_8 : (fld 29 8).type = 27 ∧ (fld 29 8).offset = 10 := ⟨by kernel_rfl, by kernel_rfl⟩
theorem u37 : Tryd.prog.underlying 27 = some (.slice 29) := by kernel_rfl
theorem u9 : Tryd.prog.underlying 9 = some .string := by kernel_rfl
theorem u2 : Tryd.prog.underlying 2 = some (.int .i64) := by kernel_rfl
theorem u3 : Tryd.prog.underlying 3 = some (.int .i64) := by kernel_rfl
theorem c39 : Tryd.prog.cellsOf 29 = 11 := by kernel_rfl
theorem c37 : Tryd.prog.cellsOf 27 = 1 := by kernel_rfl
theorem c9 : Tryd.prog.cellsOf 9 = 1 := by kernel_rfl
theorem c2 : Tryd.prog.cellsOf 2 = 1 := by kernel_rfl
theorem c3 : Tryd.prog.cellsOf 3 = 1 := by kernel_rfl
theorem tcells_len (t : Tm) : t.cells.length = 11 := by cases t; rfl
theorem tm_val {w : World} {v : Value} {t : Tm} (h : Stand w v.cells.toList t.cells) : RepV w (czAll w) v t.val := by
  have hl := h.1
  rw [tcells_len] at hl
  have key : ∀ arr : Array Value, Stand w arr.toList t.cells → RepV w (czAll w) (.agg arr) t.val := fun arr h =>
    .agg _ _ (RepL.ofD (C := czAll w) h.1 h.2)
  cases v <;> first | exact key _ h | (simp [Value.cells] at hl)
section
variable {H : Type} {enc : TypeId × Value → H} {w : World} {base : Nat} {spare : Nat → Bool} {held : Bool}
end
end Go.Proofs.YthmbncehoblgpaaDoor.E
