/- Texts, merged: St13B, St13C, St13D. No conditions. -/
import Derived.Test.YthmbncehoblgpaaDoorGenX9
/- Walks: the document's words, by kinds (printed by mk44.py). No conditions. -/
set_option linter.unusedVariables false
set_option linter.unusedSimpArgs false
namespace Go.Proofs.YthmbncehoblgpaaDoor.E
open Go

set_option maxRecDepth 10000 in
set_option maxHeartbeats 2000000 in
theorem rwords_10 (name arg : ByteArray) (num : Int) (tk : Int) (tks : List Ty) (uk : Int) (uks : List Ty) (label place : Int) (x : Tm) (ht : tmright (Tm.node 10 name arg num tk tks uk uks label place [x]) = true) (cx : RAtC x) : RWordsC 49 (Tm.node 10 name arg num tk tks uk uks label place [x]) := by
  intro hb
  have hW : tmW (Tm.node 10 name arg num tk tks uk uks label place [x]) = [bw [102, 115, 116]] ++ tmA 4 x := rfl
  rw [hW] at hb ⊢
  clear hW
  simp only [wsum_app, wsum_cons, wsum_nil, bw_size, List.length_cons, List.length_nil] at hb
  have dx := cx.2 4 (by omega)
  have hx := cx.1 4
  have ex := joinW_le (tmA 4 x)
  generalize tmA 4 x = sx at hb dx hx ex ⊢
  clear cx
  obtain ⟨x0, x1, x2, x3, x4, x5, x6, x7, x8, x9, x10⟩ := x
  refine ACall.body tab_ok (ρ := 0) (N := 232) Tryd.func49 rfl rfl rfl rfl rfl ?_
  repeat' first | ((refine And.intro (by simp only [ByteArray.size_append, bw_size, bwl, List.length_cons, List.length_nil]; omega : (_ : Nat) ≤ 9223372036854775807) ?_; conv => whnf)) | ((refine And.intro (⟨by decide, by first | decide | (simp [Tm.rows]; done) | (simp [Tm.rows]; decide)⟩ : _ ∧ _) ?_; conv => whnf)) | ((intro row hrow; obtain rfl := Option.some.inj hrow; conv => whnf)) | refine AW.seq ?_ | refine AW.block ?_ | (refine (_root_.id : AW _ _ _ (.region 13 _ true) _ _ → _) ?_; refine AW.draw (id := 13) tab_ok mixed [0, 1, 2, 3, 4, 5, 9, 10, 11, 12, 6, 7, 8, 13, 14, 15] (by kernel_rfl) ?_; conv => whnf) | (refine (_root_.id : AW _ _ _ (.region 15 _ true) _ _ → _) ?_; refine AW.draw (id := 15) tab_ok mixed [0, 1, 2, 3, 4, 5, 6, 7, 8, 9, 13, 14, 18, 19, 20, 21, 10, 11, 12, 15, 16, 17, 22, 23, 24] (by kernel_rfl) ?_; conv => whnf) | (refine (_root_.id : AW _ _ _ (.region 17 _ true) _ _ → _) ?_; refine AW.draw (id := 17) tab_ok mixed [0, 1, 2, 3, 6, 7, 8, 9, 4, 5, 10, 11, 12, 13] (by kernel_rfl) ?_; conv => whnf) | (refine (_root_.id : AW _ _ _ (.region 19 _ true) _ _ → _) ?_; refine AW.draw (id := 19) tab_ok mixed [0, 1, 2, 3, 4, 5, 9, 10, 11, 12, 16, 17, 18, 19, 6, 7, 8, 13, 14, 15, 20, 21, 22] (by kernel_rfl) ?_; conv => whnf) | (refine (_root_.id : AW _ _ _ (.region 21 _ true) _ _ → _) ?_; refine AW.draw (id := 21) tab_ok mixed [0, 1, 2, 3, 7, 8, 9, 10, 14, 15, 16, 17, 4, 5, 6, 11, 12, 13, 18, 19, 20] (by kernel_rfl) ?_; conv => whnf) | (refine (_root_.id : AW _ _ _ (.region 23 _ true) _ _ → _) ?_; refine AW.draw (id := 23) tab_ok mixed [0, 1, 2, 3, 7, 8, 9, 10, 4, 5, 6, 11, 12, 13, 14] (by kernel_rfl) ?_; conv => whnf) | (refine (_root_.id : AW _ _ _ (.region 29 _ true) _ _ → _) ?_; refine AW.draw (id := 29) tab_ok mixed [0, 1, 5, 6, 7, 8, 2, 3, 4, 9, 10, 11] (by kernel_rfl) ?_; conv => whnf) | (refine (_root_.id : AW _ _ _ (.region 31 _ true) _ _ → _) ?_; refine AW.draw (id := 31) tab_ok mixed [0, 1, 5, 6, 7, 8, 2, 3, 4, 9, 10, 11] (by kernel_rfl) ?_; conv => whnf) | (refine (_root_.id : AW _ _ _ (.region 33 _ true) _ _ → _) ?_; refine AW.draw (id := 33) tab_ok mixed [0, 1, 2, 3, 7, 8, 11, 12, 13, 14, 18, 19, 22, 23, 24, 25, 4, 5, 6, 9, 10, 15, 16, 17, 20, 21, 26, 27, 28] (by kernel_rfl) ?_; conv => whnf) | (refine (_root_.id : AW _ _ _ (.region 35 _ true) _ _ → _) ?_; refine AW.draw (id := 35) tab_ok mixed [0, 1, 2, 3, 6, 7, 4, 5, 8, 9, 10] (by kernel_rfl) ?_; conv => whnf) | ((first | refine AW.region tab_ok ?_ | refine AW.cond ?_ | refine AW.skip ?_ | refine AW.ret ?_ | refine AW.exit ?_); conv => whnf) | (refine (dx).mono ?_; rintro _ _ ⟨rfl, rfl⟩; conv => whnf) | ((first | refine And.intro (@rfl Val _) ?_ | refine And.intro (by decide) ?_ | refine cs (fun _ => ?_) (fun _ => ?_)) <;> conv => whnf)
  all_goals first | exact ⟨rfl, rfl⟩ | (refine ⟨retS (ba_eq ?_), rfl⟩; simp [ba_app, bw_list, joinW_cons, joinW_app, joinW_one, hx]; done)
set_option maxRecDepth 10000 in
set_option maxHeartbeats 2000000 in
theorem rwords_11 (name arg : ByteArray) (num : Int) (tk : Int) (tks : List Ty) (uk : Int) (uks : List Ty) (label place : Int) (x : Tm) (ht : tmright (Tm.node 11 name arg num tk tks uk uks label place [x]) = true) (cx : RAtC x) : RWordsC 49 (Tm.node 11 name arg num tk tks uk uks label place [x]) := by
  intro hb
  have hW : tmW (Tm.node 11 name arg num tk tks uk uks label place [x]) = [bw [115, 110, 100]] ++ tmA 4 x := rfl
  rw [hW] at hb ⊢
  clear hW
  simp only [wsum_app, wsum_cons, wsum_nil, bw_size, List.length_cons, List.length_nil] at hb
  have dx := cx.2 4 (by omega)
  have hx := cx.1 4
  have ex := joinW_le (tmA 4 x)
  generalize tmA 4 x = sx at hb dx hx ex ⊢
  clear cx
  obtain ⟨x0, x1, x2, x3, x4, x5, x6, x7, x8, x9, x10⟩ := x
  refine ACall.body tab_ok (ρ := 0) (N := 232) Tryd.func49 rfl rfl rfl rfl rfl ?_
  repeat' first | ((refine And.intro (by simp only [ByteArray.size_append, bw_size, bwl, List.length_cons, List.length_nil]; omega : (_ : Nat) ≤ 9223372036854775807) ?_; conv => whnf)) | ((refine And.intro (⟨by decide, by first | decide | (simp [Tm.rows]; done) | (simp [Tm.rows]; decide)⟩ : _ ∧ _) ?_; conv => whnf)) | ((intro row hrow; obtain rfl := Option.some.inj hrow; conv => whnf)) | refine AW.seq ?_ | refine AW.block ?_ | (refine (_root_.id : AW _ _ _ (.region 13 _ true) _ _ → _) ?_; refine AW.draw (id := 13) tab_ok mixed [0, 1, 2, 3, 4, 5, 9, 10, 11, 12, 6, 7, 8, 13, 14, 15] (by kernel_rfl) ?_; conv => whnf) | (refine (_root_.id : AW _ _ _ (.region 15 _ true) _ _ → _) ?_; refine AW.draw (id := 15) tab_ok mixed [0, 1, 2, 3, 4, 5, 6, 7, 8, 9, 13, 14, 18, 19, 20, 21, 10, 11, 12, 15, 16, 17, 22, 23, 24] (by kernel_rfl) ?_; conv => whnf) | (refine (_root_.id : AW _ _ _ (.region 17 _ true) _ _ → _) ?_; refine AW.draw (id := 17) tab_ok mixed [0, 1, 2, 3, 6, 7, 8, 9, 4, 5, 10, 11, 12, 13] (by kernel_rfl) ?_; conv => whnf) | (refine (_root_.id : AW _ _ _ (.region 19 _ true) _ _ → _) ?_; refine AW.draw (id := 19) tab_ok mixed [0, 1, 2, 3, 4, 5, 9, 10, 11, 12, 16, 17, 18, 19, 6, 7, 8, 13, 14, 15, 20, 21, 22] (by kernel_rfl) ?_; conv => whnf) | (refine (_root_.id : AW _ _ _ (.region 21 _ true) _ _ → _) ?_; refine AW.draw (id := 21) tab_ok mixed [0, 1, 2, 3, 7, 8, 9, 10, 14, 15, 16, 17, 4, 5, 6, 11, 12, 13, 18, 19, 20] (by kernel_rfl) ?_; conv => whnf) | (refine (_root_.id : AW _ _ _ (.region 23 _ true) _ _ → _) ?_; refine AW.draw (id := 23) tab_ok mixed [0, 1, 2, 3, 7, 8, 9, 10, 4, 5, 6, 11, 12, 13, 14] (by kernel_rfl) ?_; conv => whnf) | (refine (_root_.id : AW _ _ _ (.region 29 _ true) _ _ → _) ?_; refine AW.draw (id := 29) tab_ok mixed [0, 1, 5, 6, 7, 8, 2, 3, 4, 9, 10, 11] (by kernel_rfl) ?_; conv => whnf) | (refine (_root_.id : AW _ _ _ (.region 31 _ true) _ _ → _) ?_; refine AW.draw (id := 31) tab_ok mixed [0, 1, 5, 6, 7, 8, 2, 3, 4, 9, 10, 11] (by kernel_rfl) ?_; conv => whnf) | (refine (_root_.id : AW _ _ _ (.region 33 _ true) _ _ → _) ?_; refine AW.draw (id := 33) tab_ok mixed [0, 1, 2, 3, 7, 8, 11, 12, 13, 14, 18, 19, 22, 23, 24, 25, 4, 5, 6, 9, 10, 15, 16, 17, 20, 21, 26, 27, 28] (by kernel_rfl) ?_; conv => whnf) | (refine (_root_.id : AW _ _ _ (.region 35 _ true) _ _ → _) ?_; refine AW.draw (id := 35) tab_ok mixed [0, 1, 2, 3, 6, 7, 4, 5, 8, 9, 10] (by kernel_rfl) ?_; conv => whnf) | ((first | refine AW.region tab_ok ?_ | refine AW.cond ?_ | refine AW.skip ?_ | refine AW.ret ?_ | refine AW.exit ?_); conv => whnf) | (refine (dx).mono ?_; rintro _ _ ⟨rfl, rfl⟩; conv => whnf) | ((first | refine And.intro (@rfl Val _) ?_ | refine And.intro (by decide) ?_ | refine cs (fun _ => ?_) (fun _ => ?_)) <;> conv => whnf)
  all_goals first | exact ⟨rfl, rfl⟩ | (refine ⟨retS (ba_eq ?_), rfl⟩; simp [ba_app, bw_list, joinW_cons, joinW_app, joinW_one, hx]; done)
set_option maxRecDepth 10000 in
set_option maxHeartbeats 2000000 in
theorem rwords_12 (name arg : ByteArray) (num : Int) (tk : Int) (tks : List Ty) (uk : Int) (uks : List Ty) (label place : Int) (x : Tm) (ht : tmright (Tm.node 12 name arg num tk tks uk uks label place [x]) = true) (cx : RAtC x) : RWordsC 49 (Tm.node 12 name arg num tk tks uk uks label place [x]) := by
  intro hb
  have hW : tmW (Tm.node 12 name arg num tk tks uk uks label place [x]) = [bw [105, 110, 108]] ++ [bw [123]] ++ [bw (tyO (.node tk tks))] ++ [bw [125]] ++ tmA 4 x := rfl
  rw [hW] at hb ⊢
  clear hW
  simp only [wsum_app, wsum_cons, wsum_nil, bw_size, List.length_cons, List.length_nil] at hb
  have dtk := rkind05_call (.node tk tks) ((tmright_own ht).1 rfl)
  have etk := bw_size (tyO (.node tk tks))
  generalize bw (tyO (.node tk tks)) = stk at hb dtk etk ⊢
  have dx := cx.2 4 (by omega)
  have hx := cx.1 4
  have ex := joinW_le (tmA 4 x)
  generalize tmA 4 x = sx at hb dx hx ex ⊢
  clear cx
  obtain ⟨x0, x1, x2, x3, x4, x5, x6, x7, x8, x9, x10⟩ := x
  refine ACall.body tab_ok (ρ := 0) (N := 232) Tryd.func49 rfl rfl rfl rfl rfl ?_
  repeat' first | ((refine And.intro (by simp only [ByteArray.size_append, bw_size, bwl, List.length_cons, List.length_nil]; omega : (_ : Nat) ≤ 9223372036854775807) ?_; conv => whnf)) | ((refine And.intro (⟨by decide, by first | decide | (simp [Tm.rows]; done) | (simp [Tm.rows]; decide)⟩ : _ ∧ _) ?_; conv => whnf)) | ((intro row hrow; obtain rfl := Option.some.inj hrow; conv => whnf)) | refine AW.seq ?_ | refine AW.block ?_ | (refine (_root_.id : AW _ _ _ (.region 13 _ true) _ _ → _) ?_; refine AW.draw (id := 13) tab_ok mixed [0, 1, 2, 3, 4, 5, 9, 10, 11, 12, 6, 7, 8, 13, 14, 15] (by kernel_rfl) ?_; conv => whnf) | (refine (_root_.id : AW _ _ _ (.region 15 _ true) _ _ → _) ?_; refine AW.draw (id := 15) tab_ok mixed [0, 1, 2, 3, 4, 5, 6, 7, 8, 9, 13, 14, 18, 19, 20, 21, 10, 11, 12, 15, 16, 17, 22, 23, 24] (by kernel_rfl) ?_; conv => whnf) | (refine (_root_.id : AW _ _ _ (.region 17 _ true) _ _ → _) ?_; refine AW.draw (id := 17) tab_ok mixed [0, 1, 2, 3, 6, 7, 8, 9, 4, 5, 10, 11, 12, 13] (by kernel_rfl) ?_; conv => whnf) | (refine (_root_.id : AW _ _ _ (.region 19 _ true) _ _ → _) ?_; refine AW.draw (id := 19) tab_ok mixed [0, 1, 2, 3, 4, 5, 9, 10, 11, 12, 16, 17, 18, 19, 6, 7, 8, 13, 14, 15, 20, 21, 22] (by kernel_rfl) ?_; conv => whnf) | (refine (_root_.id : AW _ _ _ (.region 21 _ true) _ _ → _) ?_; refine AW.draw (id := 21) tab_ok mixed [0, 1, 2, 3, 7, 8, 9, 10, 14, 15, 16, 17, 4, 5, 6, 11, 12, 13, 18, 19, 20] (by kernel_rfl) ?_; conv => whnf) | (refine (_root_.id : AW _ _ _ (.region 23 _ true) _ _ → _) ?_; refine AW.draw (id := 23) tab_ok mixed [0, 1, 2, 3, 7, 8, 9, 10, 4, 5, 6, 11, 12, 13, 14] (by kernel_rfl) ?_; conv => whnf) | (refine (_root_.id : AW _ _ _ (.region 29 _ true) _ _ → _) ?_; refine AW.draw (id := 29) tab_ok mixed [0, 1, 5, 6, 7, 8, 2, 3, 4, 9, 10, 11] (by kernel_rfl) ?_; conv => whnf) | (refine (_root_.id : AW _ _ _ (.region 31 _ true) _ _ → _) ?_; refine AW.draw (id := 31) tab_ok mixed [0, 1, 5, 6, 7, 8, 2, 3, 4, 9, 10, 11] (by kernel_rfl) ?_; conv => whnf) | (refine (_root_.id : AW _ _ _ (.region 33 _ true) _ _ → _) ?_; refine AW.draw (id := 33) tab_ok mixed [0, 1, 2, 3, 7, 8, 11, 12, 13, 14, 18, 19, 22, 23, 24, 25, 4, 5, 6, 9, 10, 15, 16, 17, 20, 21, 26, 27, 28] (by kernel_rfl) ?_; conv => whnf) | (refine (_root_.id : AW _ _ _ (.region 35 _ true) _ _ → _) ?_; refine AW.draw (id := 35) tab_ok mixed [0, 1, 2, 3, 6, 7, 4, 5, 8, 9, 10] (by kernel_rfl) ?_; conv => whnf) | ((first | refine AW.region tab_ok ?_ | refine AW.cond ?_ | refine AW.skip ?_ | refine AW.ret ?_ | refine AW.exit ?_); conv => whnf) | ((first | refine (dtk).mono ?_ | refine (dx).mono ?_); rintro _ _ ⟨rfl, rfl⟩; conv => whnf) | ((first | refine And.intro (@rfl Val _) ?_ | refine And.intro (by decide) ?_ | refine cs (fun _ => ?_) (fun _ => ?_)) <;> conv => whnf)
  all_goals first | exact ⟨rfl, rfl⟩ | (refine ⟨retS (ba_eq ?_), rfl⟩; simp [ba_app, bw_list, joinW_cons, joinW_app, joinW_one, hx]; done)
set_option maxRecDepth 10000 in
set_option maxHeartbeats 2000000 in
theorem rwords_13 (name arg : ByteArray) (num : Int) (tk : Int) (tks : List Ty) (uk : Int) (uks : List Ty) (label place : Int) (x : Tm) (ht : tmright (Tm.node 13 name arg num tk tks uk uks label place [x]) = true) (cx : RAtC x) : RWordsC 49 (Tm.node 13 name arg num tk tks uk uks label place [x]) := by
  intro hb
  have hW : tmW (Tm.node 13 name arg num tk tks uk uks label place [x]) = [bw [105, 110, 114]] ++ [bw [123]] ++ [bw (tyO (.node tk tks))] ++ [bw [125]] ++ tmA 4 x := rfl
  rw [hW] at hb ⊢
  clear hW
  simp only [wsum_app, wsum_cons, wsum_nil, bw_size, List.length_cons, List.length_nil] at hb
  have dtk := rkind05_call (.node tk tks) ((tmright_own ht).1 rfl)
  have etk := bw_size (tyO (.node tk tks))
  generalize bw (tyO (.node tk tks)) = stk at hb dtk etk ⊢
  have dx := cx.2 4 (by omega)
  have hx := cx.1 4
  have ex := joinW_le (tmA 4 x)
  generalize tmA 4 x = sx at hb dx hx ex ⊢
  clear cx
  obtain ⟨x0, x1, x2, x3, x4, x5, x6, x7, x8, x9, x10⟩ := x
  refine ACall.body tab_ok (ρ := 0) (N := 232) Tryd.func49 rfl rfl rfl rfl rfl ?_
  repeat' first | ((refine And.intro (by simp only [ByteArray.size_append, bw_size, bwl, List.length_cons, List.length_nil]; omega : (_ : Nat) ≤ 9223372036854775807) ?_; conv => whnf)) | ((refine And.intro (⟨by decide, by first | decide | (simp [Tm.rows]; done) | (simp [Tm.rows]; decide)⟩ : _ ∧ _) ?_; conv => whnf)) | ((intro row hrow; obtain rfl := Option.some.inj hrow; conv => whnf)) | refine AW.seq ?_ | refine AW.block ?_ | (refine (_root_.id : AW _ _ _ (.region 13 _ true) _ _ → _) ?_; refine AW.draw (id := 13) tab_ok mixed [0, 1, 2, 3, 4, 5, 9, 10, 11, 12, 6, 7, 8, 13, 14, 15] (by kernel_rfl) ?_; conv => whnf) | (refine (_root_.id : AW _ _ _ (.region 15 _ true) _ _ → _) ?_; refine AW.draw (id := 15) tab_ok mixed [0, 1, 2, 3, 4, 5, 6, 7, 8, 9, 13, 14, 18, 19, 20, 21, 10, 11, 12, 15, 16, 17, 22, 23, 24] (by kernel_rfl) ?_; conv => whnf) | (refine (_root_.id : AW _ _ _ (.region 17 _ true) _ _ → _) ?_; refine AW.draw (id := 17) tab_ok mixed [0, 1, 2, 3, 6, 7, 8, 9, 4, 5, 10, 11, 12, 13] (by kernel_rfl) ?_; conv => whnf) | (refine (_root_.id : AW _ _ _ (.region 19 _ true) _ _ → _) ?_; refine AW.draw (id := 19) tab_ok mixed [0, 1, 2, 3, 4, 5, 9, 10, 11, 12, 16, 17, 18, 19, 6, 7, 8, 13, 14, 15, 20, 21, 22] (by kernel_rfl) ?_; conv => whnf) | (refine (_root_.id : AW _ _ _ (.region 21 _ true) _ _ → _) ?_; refine AW.draw (id := 21) tab_ok mixed [0, 1, 2, 3, 7, 8, 9, 10, 14, 15, 16, 17, 4, 5, 6, 11, 12, 13, 18, 19, 20] (by kernel_rfl) ?_; conv => whnf) | (refine (_root_.id : AW _ _ _ (.region 23 _ true) _ _ → _) ?_; refine AW.draw (id := 23) tab_ok mixed [0, 1, 2, 3, 7, 8, 9, 10, 4, 5, 6, 11, 12, 13, 14] (by kernel_rfl) ?_; conv => whnf) | (refine (_root_.id : AW _ _ _ (.region 29 _ true) _ _ → _) ?_; refine AW.draw (id := 29) tab_ok mixed [0, 1, 5, 6, 7, 8, 2, 3, 4, 9, 10, 11] (by kernel_rfl) ?_; conv => whnf) | (refine (_root_.id : AW _ _ _ (.region 31 _ true) _ _ → _) ?_; refine AW.draw (id := 31) tab_ok mixed [0, 1, 5, 6, 7, 8, 2, 3, 4, 9, 10, 11] (by kernel_rfl) ?_; conv => whnf) | (refine (_root_.id : AW _ _ _ (.region 33 _ true) _ _ → _) ?_; refine AW.draw (id := 33) tab_ok mixed [0, 1, 2, 3, 7, 8, 11, 12, 13, 14, 18, 19, 22, 23, 24, 25, 4, 5, 6, 9, 10, 15, 16, 17, 20, 21, 26, 27, 28] (by kernel_rfl) ?_; conv => whnf) | (refine (_root_.id : AW _ _ _ (.region 35 _ true) _ _ → _) ?_; refine AW.draw (id := 35) tab_ok mixed [0, 1, 2, 3, 6, 7, 4, 5, 8, 9, 10] (by kernel_rfl) ?_; conv => whnf) | ((first | refine AW.region tab_ok ?_ | refine AW.cond ?_ | refine AW.skip ?_ | refine AW.ret ?_ | refine AW.exit ?_); conv => whnf) | ((first | refine (dtk).mono ?_ | refine (dx).mono ?_); rintro _ _ ⟨rfl, rfl⟩; conv => whnf) | ((first | refine And.intro (@rfl Val _) ?_ | refine And.intro (by decide) ?_ | refine cs (fun _ => ?_) (fun _ => ?_)) <;> conv => whnf)
  all_goals first | exact ⟨rfl, rfl⟩ | (refine ⟨retS (ba_eq ?_), rfl⟩; simp [ba_app, bw_list, joinW_cons, joinW_app, joinW_one, hx]; done)
set_option maxRecDepth 10000 in
set_option maxHeartbeats 2000000 in
theorem rwords_4 (name arg : ByteArray) (num : Int) (tk : Int) (tks : List Ty) (uk : Int) (uks : List Ty) (label place : Int) (x : Tm) (ht : tmright (Tm.node 4 name arg num tk tks uk uks label place [x]) = true) (cx : RAtC x) : RWordsC 49 (Tm.node 4 name arg num tk tks uk uks label place [x]) := by
  intro hb
  have hW : tmW (Tm.node 4 name arg num tk tks uk uks label place [x]) = [bw [92], name, bw [58]] ++ [bw (tyO (.node tk tks))] ++ [bw [46]] ++ tmA (-1) x := rfl
  rw [hW] at hb ⊢
  clear hW
  simp only [wsum_app, wsum_cons, wsum_nil, bw_size, List.length_cons, List.length_nil] at hb
  have dtk := rkind05_call (.node tk tks) ((tmright_own ht).1 rfl)
  have etk := bw_size (tyO (.node tk tks))
  generalize bw (tyO (.node tk tks)) = stk at hb dtk etk ⊢
  have dx := cx.2 (-1) (by omega)
  have hx := cx.1 (-1)
  have ex := joinW_le (tmA (-1) x)
  generalize tmA (-1) x = sx at hb dx hx ex ⊢
  clear cx
  obtain ⟨x0, x1, x2, x3, x4, x5, x6, x7, x8, x9, x10⟩ := x
  refine ACall.body tab_ok (ρ := 0) (N := 232) Tryd.func49 rfl rfl rfl rfl rfl ?_
  repeat' first | ((refine And.intro (by simp only [ByteArray.size_append, bw_size, bwl, List.length_cons, List.length_nil]; omega : (_ : Nat) ≤ 9223372036854775807) ?_; conv => whnf)) | ((refine And.intro (⟨by decide, by first | decide | (simp [Tm.rows]; done) | (simp [Tm.rows]; decide)⟩ : _ ∧ _) ?_; conv => whnf)) | ((intro row hrow; obtain rfl := Option.some.inj hrow; conv => whnf)) | refine AW.seq ?_ | refine AW.block ?_ | (refine (_root_.id : AW _ _ _ (.region 13 _ true) _ _ → _) ?_; refine AW.draw (id := 13) tab_ok mixed [0, 1, 2, 3, 4, 5, 9, 10, 11, 12, 6, 7, 8, 13, 14, 15] (by kernel_rfl) ?_; conv => whnf) | (refine (_root_.id : AW _ _ _ (.region 15 _ true) _ _ → _) ?_; refine AW.draw (id := 15) tab_ok mixed [0, 1, 2, 3, 4, 5, 6, 7, 8, 9, 13, 14, 18, 19, 20, 21, 10, 11, 12, 15, 16, 17, 22, 23, 24] (by kernel_rfl) ?_; conv => whnf) | (refine (_root_.id : AW _ _ _ (.region 17 _ true) _ _ → _) ?_; refine AW.draw (id := 17) tab_ok mixed [0, 1, 2, 3, 6, 7, 8, 9, 4, 5, 10, 11, 12, 13] (by kernel_rfl) ?_; conv => whnf) | (refine (_root_.id : AW _ _ _ (.region 19 _ true) _ _ → _) ?_; refine AW.draw (id := 19) tab_ok mixed [0, 1, 2, 3, 4, 5, 9, 10, 11, 12, 16, 17, 18, 19, 6, 7, 8, 13, 14, 15, 20, 21, 22] (by kernel_rfl) ?_; conv => whnf) | (refine (_root_.id : AW _ _ _ (.region 21 _ true) _ _ → _) ?_; refine AW.draw (id := 21) tab_ok mixed [0, 1, 2, 3, 7, 8, 9, 10, 14, 15, 16, 17, 4, 5, 6, 11, 12, 13, 18, 19, 20] (by kernel_rfl) ?_; conv => whnf) | (refine (_root_.id : AW _ _ _ (.region 23 _ true) _ _ → _) ?_; refine AW.draw (id := 23) tab_ok mixed [0, 1, 2, 3, 7, 8, 9, 10, 4, 5, 6, 11, 12, 13, 14] (by kernel_rfl) ?_; conv => whnf) | (refine (_root_.id : AW _ _ _ (.region 29 _ true) _ _ → _) ?_; refine AW.draw (id := 29) tab_ok mixed [0, 1, 5, 6, 7, 8, 2, 3, 4, 9, 10, 11] (by kernel_rfl) ?_; conv => whnf) | (refine (_root_.id : AW _ _ _ (.region 31 _ true) _ _ → _) ?_; refine AW.draw (id := 31) tab_ok mixed [0, 1, 5, 6, 7, 8, 2, 3, 4, 9, 10, 11] (by kernel_rfl) ?_; conv => whnf) | (refine (_root_.id : AW _ _ _ (.region 33 _ true) _ _ → _) ?_; refine AW.draw (id := 33) tab_ok mixed [0, 1, 2, 3, 7, 8, 11, 12, 13, 14, 18, 19, 22, 23, 24, 25, 4, 5, 6, 9, 10, 15, 16, 17, 20, 21, 26, 27, 28] (by kernel_rfl) ?_; conv => whnf) | (refine (_root_.id : AW _ _ _ (.region 35 _ true) _ _ → _) ?_; refine AW.draw (id := 35) tab_ok mixed [0, 1, 2, 3, 6, 7, 4, 5, 8, 9, 10] (by kernel_rfl) ?_; conv => whnf) | ((first | refine AW.region tab_ok ?_ | refine AW.cond ?_ | refine AW.skip ?_ | refine AW.ret ?_ | refine AW.exit ?_); conv => whnf) | ((first | refine (dtk).mono ?_ | refine (dx).mono ?_); rintro _ _ ⟨rfl, rfl⟩; conv => whnf) | ((first | refine And.intro (@rfl Val _) ?_ | refine And.intro (by decide) ?_ | refine cs (fun _ => ?_) (fun _ => ?_)) <;> conv => whnf)
  all_goals first | exact ⟨rfl, rfl⟩ | (refine ⟨retS (ba_eq ?_), rfl⟩; simp [ba_app, bw_list, joinW_cons, joinW_app, joinW_one, hx]; done)
end Go.Proofs.YthmbncehoblgpaaDoor.E

/- Walks: the document's words, by kinds (printed by mk44.py). No conditions. -/
set_option linter.unusedVariables false
set_option linter.unusedSimpArgs false
namespace Go.Proofs.YthmbncehoblgpaaDoor.E
open Go

set_option maxRecDepth 10000 in
set_option maxHeartbeats 2000000 in
theorem rwords_5 (name arg : ByteArray) (num : Int) (tk : Int) (tks : List Ty) (uk : Int) (uks : List Ty) (label place : Int) (x : Tm) (ht : tmright (Tm.node 5 name arg num tk tks uk uks label place [x]) = true) (cx : RAtC x) : RWordsC 49 (Tm.node 5 name arg num tk tks uk uks label place [x]) := by
  intro hb
  have hW : tmW (Tm.node 5 name arg num tk tks uk uks label place [x]) = [bw [114, 101, 99], name, bw [40], arg, bw [58]] ++ [bw (tyO (.node tk tks))] ++ [bw [41], bw [58]] ++ [bw (tyO (.node uk uks))] ++ [bw [46]] ++ tmA (-1) x := rfl
  rw [hW] at hb ⊢
  clear hW
  simp only [wsum_app, wsum_cons, wsum_nil, bw_size, List.length_cons, List.length_nil] at hb
  have dtk := rkind05_call (.node tk tks) ((tmright_own ht).1 rfl)
  have etk := bw_size (tyO (.node tk tks))
  generalize bw (tyO (.node tk tks)) = stk at hb dtk etk ⊢
  have duk := rkind05_call (.node uk uks) ((tmright_own ht).2 rfl)
  have euk := bw_size (tyO (.node uk uks))
  generalize bw (tyO (.node uk uks)) = suk at hb duk euk ⊢
  have dx := cx.2 (-1) (by omega)
  have hx := cx.1 (-1)
  have ex := joinW_le (tmA (-1) x)
  generalize tmA (-1) x = sx at hb dx hx ex ⊢
  clear cx
  obtain ⟨x0, x1, x2, x3, x4, x5, x6, x7, x8, x9, x10⟩ := x
  refine ACall.body tab_ok (ρ := 0) (N := 232) Tryd.func49 rfl rfl rfl rfl rfl ?_
  repeat' first | ((refine And.intro (by simp only [ByteArray.size_append, bw_size, bwl, List.length_cons, List.length_nil]; omega : (_ : Nat) ≤ 9223372036854775807) ?_; conv => whnf)) | ((refine And.intro (⟨by decide, by first | decide | (simp [Tm.rows]; done) | (simp [Tm.rows]; decide)⟩ : _ ∧ _) ?_; conv => whnf)) | ((intro row hrow; obtain rfl := Option.some.inj hrow; conv => whnf)) | refine AW.seq ?_ | refine AW.block ?_ | (refine (_root_.id : AW _ _ _ (.region 13 _ true) _ _ → _) ?_; refine AW.draw (id := 13) tab_ok mixed [0, 1, 2, 3, 4, 5, 9, 10, 11, 12, 6, 7, 8, 13, 14, 15] (by kernel_rfl) ?_; conv => whnf) | (refine (_root_.id : AW _ _ _ (.region 15 _ true) _ _ → _) ?_; refine AW.draw (id := 15) tab_ok mixed [0, 1, 2, 3, 4, 5, 6, 7, 8, 9, 13, 14, 18, 19, 20, 21, 10, 11, 12, 15, 16, 17, 22, 23, 24] (by kernel_rfl) ?_; conv => whnf) | (refine (_root_.id : AW _ _ _ (.region 17 _ true) _ _ → _) ?_; refine AW.draw (id := 17) tab_ok mixed [0, 1, 2, 3, 6, 7, 8, 9, 4, 5, 10, 11, 12, 13] (by kernel_rfl) ?_; conv => whnf) | (refine (_root_.id : AW _ _ _ (.region 19 _ true) _ _ → _) ?_; refine AW.draw (id := 19) tab_ok mixed [0, 1, 2, 3, 4, 5, 9, 10, 11, 12, 16, 17, 18, 19, 6, 7, 8, 13, 14, 15, 20, 21, 22] (by kernel_rfl) ?_; conv => whnf) | (refine (_root_.id : AW _ _ _ (.region 21 _ true) _ _ → _) ?_; refine AW.draw (id := 21) tab_ok mixed [0, 1, 2, 3, 7, 8, 9, 10, 14, 15, 16, 17, 4, 5, 6, 11, 12, 13, 18, 19, 20] (by kernel_rfl) ?_; conv => whnf) | (refine (_root_.id : AW _ _ _ (.region 23 _ true) _ _ → _) ?_; refine AW.draw (id := 23) tab_ok mixed [0, 1, 2, 3, 7, 8, 9, 10, 4, 5, 6, 11, 12, 13, 14] (by kernel_rfl) ?_; conv => whnf) | (refine (_root_.id : AW _ _ _ (.region 29 _ true) _ _ → _) ?_; refine AW.draw (id := 29) tab_ok mixed [0, 1, 5, 6, 7, 8, 2, 3, 4, 9, 10, 11] (by kernel_rfl) ?_; conv => whnf) | (refine (_root_.id : AW _ _ _ (.region 31 _ true) _ _ → _) ?_; refine AW.draw (id := 31) tab_ok mixed [0, 1, 5, 6, 7, 8, 2, 3, 4, 9, 10, 11] (by kernel_rfl) ?_; conv => whnf) | (refine (_root_.id : AW _ _ _ (.region 33 _ true) _ _ → _) ?_; refine AW.draw (id := 33) tab_ok mixed [0, 1, 2, 3, 7, 8, 11, 12, 13, 14, 18, 19, 22, 23, 24, 25, 4, 5, 6, 9, 10, 15, 16, 17, 20, 21, 26, 27, 28] (by kernel_rfl) ?_; conv => whnf) | (refine (_root_.id : AW _ _ _ (.region 35 _ true) _ _ → _) ?_; refine AW.draw (id := 35) tab_ok mixed [0, 1, 2, 3, 6, 7, 4, 5, 8, 9, 10] (by kernel_rfl) ?_; conv => whnf) | ((first | refine AW.region tab_ok ?_ | refine AW.cond ?_ | refine AW.skip ?_ | refine AW.ret ?_ | refine AW.exit ?_); conv => whnf) | ((first | refine (dtk).mono ?_ | refine (duk).mono ?_ | refine (dx).mono ?_); rintro _ _ ⟨rfl, rfl⟩; conv => whnf) | ((first | refine And.intro (@rfl Val _) ?_ | refine And.intro (by decide) ?_ | refine cs (fun _ => ?_) (fun _ => ?_)) <;> conv => whnf)
  all_goals first | exact ⟨rfl, rfl⟩ | (refine ⟨retS (ba_eq ?_), rfl⟩; simp [ba_app, bw_list, joinW_cons, joinW_app, joinW_one, hx]; done)
set_option maxRecDepth 10000 in
set_option maxHeartbeats 2000000 in
theorem rwords_7 (name arg : ByteArray) (num : Int) (tk : Int) (tks : List Ty) (uk : Int) (uks : List Ty) (label place : Int) (x y : Tm) (ht : tmright (Tm.node 7 name arg num tk tks uk uks label place [x, y]) = true) (cx : RAtC x) (cy : RAtC y) : RWordsC 49 (Tm.node 7 name arg num tk tks uk uks label place [x, y]) := by
  intro hb
  have hW : tmW (Tm.node 7 name arg num tk tks uk uks label place [x, y]) = [bw [108, 101, 116], name, bw [58]] ++ [bw (tyO (.node tk tks))] ++ [bw [61]] ++ tmA (-1) x ++ [bw [105, 110]] ++ tmA (-1) y := rfl
  rw [hW] at hb ⊢
  clear hW
  simp only [wsum_app, wsum_cons, wsum_nil, bw_size, List.length_cons, List.length_nil] at hb
  have dtk := rkind05_call (.node tk tks) ((tmright_own ht).1 rfl)
  have etk := bw_size (tyO (.node tk tks))
  generalize bw (tyO (.node tk tks)) = stk at hb dtk etk ⊢
  have dx := cx.2 (-1) (by omega)
  have hx := cx.1 (-1)
  have ex := joinW_le (tmA (-1) x)
  generalize tmA (-1) x = sx at hb dx hx ex ⊢
  clear cx
  have dy := cy.2 (-1) (by omega)
  have hy := cy.1 (-1)
  have ey := joinW_le (tmA (-1) y)
  generalize tmA (-1) y = sy at hb dy hy ey ⊢
  clear cy
  obtain ⟨x0, x1, x2, x3, x4, x5, x6, x7, x8, x9, x10⟩ := x
  obtain ⟨y0, y1, y2, y3, y4, y5, y6, y7, y8, y9, y10⟩ := y
  refine ACall.body tab_ok (ρ := 0) (N := 232) Tryd.func49 rfl rfl rfl rfl rfl ?_
  repeat' first | ((refine And.intro (by simp only [ByteArray.size_append, bw_size, bwl, List.length_cons, List.length_nil]; omega : (_ : Nat) ≤ 9223372036854775807) ?_; conv => whnf)) | ((refine And.intro (⟨by decide, by first | decide | (simp [Tm.rows]; done) | (simp [Tm.rows]; decide)⟩ : _ ∧ _) ?_; conv => whnf)) | ((intro row hrow; obtain rfl := Option.some.inj hrow; conv => whnf)) | refine AW.seq ?_ | refine AW.block ?_ | (refine (_root_.id : AW _ _ _ (.region 13 _ true) _ _ → _) ?_; refine AW.draw (id := 13) tab_ok mixed [0, 1, 2, 3, 4, 5, 9, 10, 11, 12, 6, 7, 8, 13, 14, 15] (by kernel_rfl) ?_; conv => whnf) | (refine (_root_.id : AW _ _ _ (.region 15 _ true) _ _ → _) ?_; refine AW.draw (id := 15) tab_ok mixed [0, 1, 2, 3, 4, 5, 6, 7, 8, 9, 13, 14, 18, 19, 20, 21, 10, 11, 12, 15, 16, 17, 22, 23, 24] (by kernel_rfl) ?_; conv => whnf) | (refine (_root_.id : AW _ _ _ (.region 17 _ true) _ _ → _) ?_; refine AW.draw (id := 17) tab_ok mixed [0, 1, 2, 3, 6, 7, 8, 9, 4, 5, 10, 11, 12, 13] (by kernel_rfl) ?_; conv => whnf) | (refine (_root_.id : AW _ _ _ (.region 19 _ true) _ _ → _) ?_; refine AW.draw (id := 19) tab_ok mixed [0, 1, 2, 3, 4, 5, 9, 10, 11, 12, 16, 17, 18, 19, 6, 7, 8, 13, 14, 15, 20, 21, 22] (by kernel_rfl) ?_; conv => whnf) | (refine (_root_.id : AW _ _ _ (.region 21 _ true) _ _ → _) ?_; refine AW.draw (id := 21) tab_ok mixed [0, 1, 2, 3, 7, 8, 9, 10, 14, 15, 16, 17, 4, 5, 6, 11, 12, 13, 18, 19, 20] (by kernel_rfl) ?_; conv => whnf) | (refine (_root_.id : AW _ _ _ (.region 23 _ true) _ _ → _) ?_; refine AW.draw (id := 23) tab_ok mixed [0, 1, 2, 3, 7, 8, 9, 10, 4, 5, 6, 11, 12, 13, 14] (by kernel_rfl) ?_; conv => whnf) | (refine (_root_.id : AW _ _ _ (.region 29 _ true) _ _ → _) ?_; refine AW.draw (id := 29) tab_ok mixed [0, 1, 5, 6, 7, 8, 2, 3, 4, 9, 10, 11] (by kernel_rfl) ?_; conv => whnf) | (refine (_root_.id : AW _ _ _ (.region 31 _ true) _ _ → _) ?_; refine AW.draw (id := 31) tab_ok mixed [0, 1, 5, 6, 7, 8, 2, 3, 4, 9, 10, 11] (by kernel_rfl) ?_; conv => whnf) | (refine (_root_.id : AW _ _ _ (.region 33 _ true) _ _ → _) ?_; refine AW.draw (id := 33) tab_ok mixed [0, 1, 2, 3, 7, 8, 11, 12, 13, 14, 18, 19, 22, 23, 24, 25, 4, 5, 6, 9, 10, 15, 16, 17, 20, 21, 26, 27, 28] (by kernel_rfl) ?_; conv => whnf) | (refine (_root_.id : AW _ _ _ (.region 35 _ true) _ _ → _) ?_; refine AW.draw (id := 35) tab_ok mixed [0, 1, 2, 3, 6, 7, 4, 5, 8, 9, 10] (by kernel_rfl) ?_; conv => whnf) | ((first | refine AW.region tab_ok ?_ | refine AW.cond ?_ | refine AW.skip ?_ | refine AW.ret ?_ | refine AW.exit ?_); conv => whnf) | ((first | refine (dtk).mono ?_ | refine (dx).mono ?_ | refine (dy).mono ?_); rintro _ _ ⟨rfl, rfl⟩; conv => whnf) | ((first | refine And.intro (@rfl Val _) ?_ | refine And.intro (by decide) ?_ | refine cs (fun _ => ?_) (fun _ => ?_)) <;> conv => whnf)
  all_goals first | exact ⟨rfl, rfl⟩ | (refine ⟨retS (ba_eq ?_), rfl⟩; simp [ba_app, bw_list, joinW_cons, joinW_app, joinW_one, hx, hy]; done)
end Go.Proofs.YthmbncehoblgpaaDoor.E

/- Walks: the document's words, by kinds (printed by mk44.py). No conditions. -/
set_option linter.unusedVariables false
set_option linter.unusedSimpArgs false
namespace Go.Proofs.YthmbncehoblgpaaDoor.E
open Go

set_option maxRecDepth 10000 in
set_option maxHeartbeats 2000000 in
theorem rwords_8 (name arg : ByteArray) (num : Int) (tk : Int) (tks : List Ty) (uk : Int) (uks : List Ty) (label place : Int) (x y z : Tm) (ht : tmright (Tm.node 8 name arg num tk tks uk uks label place [x, y, z]) = true) (cx : RAtC x) (cy : RAtC y) (cz : RAtC z) : RWordsC 49 (Tm.node 8 name arg num tk tks uk uks label place [x, y, z]) := by
  intro hb
  have hW : tmW (Tm.node 8 name arg num tk tks uk uks label place [x, y, z]) = [bw [105, 102]] ++ tmA (-1) x ++ [bw [116, 104, 101, 110]] ++ tmA (-1) y ++ [bw [101, 108, 115, 101]] ++ tmA (-1) z := rfl
  rw [hW] at hb ⊢
  clear hW
  simp only [wsum_app, wsum_cons, wsum_nil, bw_size, List.length_cons, List.length_nil] at hb
  have dx := cx.2 (-1) (by omega)
  have hx := cx.1 (-1)
  have ex := joinW_le (tmA (-1) x)
  generalize tmA (-1) x = sx at hb dx hx ex ⊢
  clear cx
  have dy := cy.2 (-1) (by omega)
  have hy := cy.1 (-1)
  have ey := joinW_le (tmA (-1) y)
  generalize tmA (-1) y = sy at hb dy hy ey ⊢
  clear cy
  have dz := cz.2 (-1) (by omega)
  have hz := cz.1 (-1)
  have ez := joinW_le (tmA (-1) z)
  generalize tmA (-1) z = sz at hb dz hz ez ⊢
  clear cz
  obtain ⟨x0, x1, x2, x3, x4, x5, x6, x7, x8, x9, x10⟩ := x
  obtain ⟨y0, y1, y2, y3, y4, y5, y6, y7, y8, y9, y10⟩ := y
  obtain ⟨z0, z1, z2, z3, z4, z5, z6, z7, z8, z9, z10⟩ := z
  refine ACall.body tab_ok (ρ := 0) (N := 232) Tryd.func49 rfl rfl rfl rfl rfl ?_
  repeat' first | ((refine And.intro (by simp only [ByteArray.size_append, bw_size, bwl, List.length_cons, List.length_nil]; omega : (_ : Nat) ≤ 9223372036854775807) ?_; conv => whnf)) | ((refine And.intro (⟨by decide, by first | decide | (simp [Tm.rows]; done) | (simp [Tm.rows]; decide)⟩ : _ ∧ _) ?_; conv => whnf)) | ((intro row hrow; obtain rfl := Option.some.inj hrow; conv => whnf)) | refine AW.seq ?_ | refine AW.block ?_ | (refine (_root_.id : AW _ _ _ (.region 13 _ true) _ _ → _) ?_; refine AW.draw (id := 13) tab_ok mixed [0, 1, 2, 3, 4, 5, 9, 10, 11, 12, 6, 7, 8, 13, 14, 15] (by kernel_rfl) ?_; conv => whnf) | (refine (_root_.id : AW _ _ _ (.region 15 _ true) _ _ → _) ?_; refine AW.draw (id := 15) tab_ok mixed [0, 1, 2, 3, 4, 5, 6, 7, 8, 9, 13, 14, 18, 19, 20, 21, 10, 11, 12, 15, 16, 17, 22, 23, 24] (by kernel_rfl) ?_; conv => whnf) | (refine (_root_.id : AW _ _ _ (.region 17 _ true) _ _ → _) ?_; refine AW.draw (id := 17) tab_ok mixed [0, 1, 2, 3, 6, 7, 8, 9, 4, 5, 10, 11, 12, 13] (by kernel_rfl) ?_; conv => whnf) | (refine (_root_.id : AW _ _ _ (.region 19 _ true) _ _ → _) ?_; refine AW.draw (id := 19) tab_ok mixed [0, 1, 2, 3, 4, 5, 9, 10, 11, 12, 16, 17, 18, 19, 6, 7, 8, 13, 14, 15, 20, 21, 22] (by kernel_rfl) ?_; conv => whnf) | (refine (_root_.id : AW _ _ _ (.region 21 _ true) _ _ → _) ?_; refine AW.draw (id := 21) tab_ok mixed [0, 1, 2, 3, 7, 8, 9, 10, 14, 15, 16, 17, 4, 5, 6, 11, 12, 13, 18, 19, 20] (by kernel_rfl) ?_; conv => whnf) | (refine (_root_.id : AW _ _ _ (.region 23 _ true) _ _ → _) ?_; refine AW.draw (id := 23) tab_ok mixed [0, 1, 2, 3, 7, 8, 9, 10, 4, 5, 6, 11, 12, 13, 14] (by kernel_rfl) ?_; conv => whnf) | (refine (_root_.id : AW _ _ _ (.region 29 _ true) _ _ → _) ?_; refine AW.draw (id := 29) tab_ok mixed [0, 1, 5, 6, 7, 8, 2, 3, 4, 9, 10, 11] (by kernel_rfl) ?_; conv => whnf) | (refine (_root_.id : AW _ _ _ (.region 31 _ true) _ _ → _) ?_; refine AW.draw (id := 31) tab_ok mixed [0, 1, 5, 6, 7, 8, 2, 3, 4, 9, 10, 11] (by kernel_rfl) ?_; conv => whnf) | (refine (_root_.id : AW _ _ _ (.region 33 _ true) _ _ → _) ?_; refine AW.draw (id := 33) tab_ok mixed [0, 1, 2, 3, 7, 8, 11, 12, 13, 14, 18, 19, 22, 23, 24, 25, 4, 5, 6, 9, 10, 15, 16, 17, 20, 21, 26, 27, 28] (by kernel_rfl) ?_; conv => whnf) | (refine (_root_.id : AW _ _ _ (.region 35 _ true) _ _ → _) ?_; refine AW.draw (id := 35) tab_ok mixed [0, 1, 2, 3, 6, 7, 4, 5, 8, 9, 10] (by kernel_rfl) ?_; conv => whnf) | ((first | refine AW.region tab_ok ?_ | refine AW.cond ?_ | refine AW.skip ?_ | refine AW.ret ?_ | refine AW.exit ?_); conv => whnf) | ((first | refine (dx).mono ?_ | refine (dy).mono ?_ | refine (dz).mono ?_); rintro _ _ ⟨rfl, rfl⟩; conv => whnf) | ((first | refine And.intro (@rfl Val _) ?_ | refine And.intro (by decide) ?_ | refine cs (fun _ => ?_) (fun _ => ?_)) <;> conv => whnf)
  all_goals first | exact ⟨rfl, rfl⟩ | (refine ⟨retS (ba_eq ?_), rfl⟩; simp [ba_app, bw_list, joinW_cons, joinW_app, joinW_one, hx, hy, hz]; done)
set_option maxRecDepth 10000 in
set_option maxHeartbeats 2000000 in
theorem rwords_14 (name arg : ByteArray) (num : Int) (tk : Int) (tks : List Ty) (uk : Int) (uks : List Ty) (label place : Int) (x y z : Tm) (ht : tmright (Tm.node 14 name arg num tk tks uk uks label place [x, y, z]) = true) (cx : RAtC x) (cy : RAtC y) (cz : RAtC z) : RWordsC 49 (Tm.node 14 name arg num tk tks uk uks label place [x, y, z]) := by
  intro hb
  have hW : tmW (Tm.node 14 name arg num tk tks uk uks label place [x, y, z]) = [bw [99, 97, 115, 101]] ++ tmA (-1) x ++ [bw [111, 102], name, bw [46]] ++ tmA (-1) y ++ [bw [124], arg, bw [46]] ++ tmA (-1) z := rfl
  rw [hW] at hb ⊢
  clear hW
  simp only [wsum_app, wsum_cons, wsum_nil, bw_size, List.length_cons, List.length_nil] at hb
  have dx := cx.2 (-1) (by omega)
  have hx := cx.1 (-1)
  have ex := joinW_le (tmA (-1) x)
  generalize tmA (-1) x = sx at hb dx hx ex ⊢
  clear cx
  have dy := cy.2 (-1) (by omega)
  have hy := cy.1 (-1)
  have ey := joinW_le (tmA (-1) y)
  generalize tmA (-1) y = sy at hb dy hy ey ⊢
  clear cy
  have dz := cz.2 (-1) (by omega)
  have hz := cz.1 (-1)
  have ez := joinW_le (tmA (-1) z)
  generalize tmA (-1) z = sz at hb dz hz ez ⊢
  clear cz
  obtain ⟨x0, x1, x2, x3, x4, x5, x6, x7, x8, x9, x10⟩ := x
  obtain ⟨y0, y1, y2, y3, y4, y5, y6, y7, y8, y9, y10⟩ := y
  obtain ⟨z0, z1, z2, z3, z4, z5, z6, z7, z8, z9, z10⟩ := z
  refine ACall.body tab_ok (ρ := 0) (N := 232) Tryd.func49 rfl rfl rfl rfl rfl ?_
  repeat' first | ((refine And.intro (by simp only [ByteArray.size_append, bw_size, bwl, List.length_cons, List.length_nil]; omega : (_ : Nat) ≤ 9223372036854775807) ?_; conv => whnf)) | ((refine And.intro (⟨by decide, by first | decide | (simp [Tm.rows]; done) | (simp [Tm.rows]; decide)⟩ : _ ∧ _) ?_; conv => whnf)) | ((intro row hrow; obtain rfl := Option.some.inj hrow; conv => whnf)) | refine AW.seq ?_ | refine AW.block ?_ | (refine (_root_.id : AW _ _ _ (.region 13 _ true) _ _ → _) ?_; refine AW.draw (id := 13) tab_ok mixed [0, 1, 2, 3, 4, 5, 9, 10, 11, 12, 6, 7, 8, 13, 14, 15] (by kernel_rfl) ?_; conv => whnf) | (refine (_root_.id : AW _ _ _ (.region 15 _ true) _ _ → _) ?_; refine AW.draw (id := 15) tab_ok mixed [0, 1, 2, 3, 4, 5, 6, 7, 8, 9, 13, 14, 18, 19, 20, 21, 10, 11, 12, 15, 16, 17, 22, 23, 24] (by kernel_rfl) ?_; conv => whnf) | (refine (_root_.id : AW _ _ _ (.region 17 _ true) _ _ → _) ?_; refine AW.draw (id := 17) tab_ok mixed [0, 1, 2, 3, 6, 7, 8, 9, 4, 5, 10, 11, 12, 13] (by kernel_rfl) ?_; conv => whnf) | (refine (_root_.id : AW _ _ _ (.region 19 _ true) _ _ → _) ?_; refine AW.draw (id := 19) tab_ok mixed [0, 1, 2, 3, 4, 5, 9, 10, 11, 12, 16, 17, 18, 19, 6, 7, 8, 13, 14, 15, 20, 21, 22] (by kernel_rfl) ?_; conv => whnf) | (refine (_root_.id : AW _ _ _ (.region 21 _ true) _ _ → _) ?_; refine AW.draw (id := 21) tab_ok mixed [0, 1, 2, 3, 7, 8, 9, 10, 14, 15, 16, 17, 4, 5, 6, 11, 12, 13, 18, 19, 20] (by kernel_rfl) ?_; conv => whnf) | (refine (_root_.id : AW _ _ _ (.region 23 _ true) _ _ → _) ?_; refine AW.draw (id := 23) tab_ok mixed [0, 1, 2, 3, 7, 8, 9, 10, 4, 5, 6, 11, 12, 13, 14] (by kernel_rfl) ?_; conv => whnf) | (refine (_root_.id : AW _ _ _ (.region 29 _ true) _ _ → _) ?_; refine AW.draw (id := 29) tab_ok mixed [0, 1, 5, 6, 7, 8, 2, 3, 4, 9, 10, 11] (by kernel_rfl) ?_; conv => whnf) | (refine (_root_.id : AW _ _ _ (.region 31 _ true) _ _ → _) ?_; refine AW.draw (id := 31) tab_ok mixed [0, 1, 5, 6, 7, 8, 2, 3, 4, 9, 10, 11] (by kernel_rfl) ?_; conv => whnf) | (refine (_root_.id : AW _ _ _ (.region 33 _ true) _ _ → _) ?_; refine AW.draw (id := 33) tab_ok mixed [0, 1, 2, 3, 7, 8, 11, 12, 13, 14, 18, 19, 22, 23, 24, 25, 4, 5, 6, 9, 10, 15, 16, 17, 20, 21, 26, 27, 28] (by kernel_rfl) ?_; conv => whnf) | (refine (_root_.id : AW _ _ _ (.region 35 _ true) _ _ → _) ?_; refine AW.draw (id := 35) tab_ok mixed [0, 1, 2, 3, 6, 7, 4, 5, 8, 9, 10] (by kernel_rfl) ?_; conv => whnf) | ((first | refine AW.region tab_ok ?_ | refine AW.cond ?_ | refine AW.skip ?_ | refine AW.ret ?_ | refine AW.exit ?_); conv => whnf) | ((first | refine (dx).mono ?_ | refine (dy).mono ?_ | refine (dz).mono ?_); rintro _ _ ⟨rfl, rfl⟩; conv => whnf) | ((first | refine And.intro (@rfl Val _) ?_ | refine And.intro (by decide) ?_ | refine cs (fun _ => ?_) (fun _ => ?_)) <;> conv => whnf)
  all_goals first | exact ⟨rfl, rfl⟩ | (refine ⟨retS (ba_eq ?_), rfl⟩; simp [ba_app, bw_list, joinW_cons, joinW_app, joinW_one, hx, hy, hz]; done)
end Go.Proofs.YthmbncehoblgpaaDoor.E
