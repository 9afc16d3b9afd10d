/- Texts, merged: St5B, St5C, St5D. No conditions. -/
import Derived.Test.YtmaokphbfjpodaaGreatDoorGenX10
/- Walks: the writer, by kinds (printed by mk42.py). No conditions. -/
set_option linter.unusedVariables false
set_option linter.unusedSimpArgs false
namespace Go.Proofs.YtmaokphbfjpodaaGreatDoor.E
open Go

set_option maxRecDepth 10000 in
set_option maxHeartbeats 2000000 in
theorem wterm_16 (name arg : ByteArray) (num : Int) (tk : Int) (tks : List Ty) (uk : Int) (uks : List Ty) (label place : Int) (x : Tm) (ht : tmright (Tm.node 16 name arg num tk tks uk uks label place [x]) = true) (cx : AtC x) : WordsC 56 (Tm.node 16 name arg num tk tks uk uks label place [x]) := by
  intro ws hb
  have hW : tmW (Tm.node 16 name arg num tk tks uk uks label place [x]) = tmA 0 x ++ [bw [58]] ++ [bw (tyO (.node tk tks))] := rfl
  rw [hW] at hb ⊢
  clear hW
  simp only [List.length_append, List.length_cons, List.length_nil] at hb
  have dx := cx 0
  generalize tmA 0 x = sx at hb dx ⊢
  have dtk := wkind_call (.node tk tks) ((tmright_own ht).1 rfl)
  generalize bw (tyO (.node tk tks)) = stk at hb dtk ⊢
  simp only [AtC, wObj] at hb dx dtk
  unfold wObj
  refine ACall.body tab_ok (ρ := 0) (N := 165) Tryz.func56 rfl rfl rfl rfl rfl ?_
  repeat' first | ((refine And.intro (⟨by decide, by first | decide | (simp [Tm.rows]; done) | (simp [Tm.rows]; decide)⟩ : _ ∧ _) ?_; conv => whnf)) | ((intro row hrow; obtain rfl := Option.some.inj hrow; conv => whnf)) | refine AW.seq ?_ | refine AW.block ?_ | (refine (_root_.id : AW _ _ _ (.region 3 _ true) _ _ → _) ?_; refine AW.draw (id := 3) tab_ok mixed [0, 1, 2, 3, 4, 5, 6, 7, 8, 9] (by kernel_rfl) ?_; conv => whnf) | (refine (_root_.id : AW _ _ _ (.region 10 _ true) _ _ → _) ?_; refine AW.draw (id := 10) tab_ok mixed [0, 1, 2, 3, 4, 5, 6, 7, 8, 9, 10, 11] (by kernel_rfl) ?_; conv => whnf) | (refine (_root_.id : AW _ _ _ (.region 11 _ true) _ _ → _) ?_; refine AW.draw (id := 11) tab_ok mixed [0, 1, 2, 3, 4, 5, 6, 7, 8, 9, 10] (by kernel_rfl) ?_; conv => whnf) | ((first | refine AW.region tab_ok ?_ | refine AW.cond ?_ | refine AW.skip ?_ | refine AW.ret ?_ | refine AW.exit ?_); conv => whnf) | ((first | refine (dx _ (by first | omega | (simp only [List.length_append, List.length_cons, List.length_nil]; omega))).mono ?_ | refine (dtk _ (by first | omega | (simp only [List.length_append, List.length_cons, List.length_nil]; omega))).mono ?_ | refine (put_call _ [bw [58]] (by first | omega | (simp only [List.length_append, List.length_cons, List.length_nil]; omega))).mono ?_); rintro _ _ ⟨rfl, rfl⟩; conv => whnf) | ((first | refine And.intro (@rfl Val _) ?_ | refine And.intro (by decide) ?_ | refine cs (fun _ => ?_) (fun _ => ?_)) <;> conv => whnf)
  all_goals first | exact ⟨rfl, rfl⟩ | (refine ⟨rfl, ?_⟩; simp only [List.append_assoc]; rfl)
set_option maxRecDepth 10000 in
set_option maxHeartbeats 2000000 in
theorem wprefix_10 (name arg : ByteArray) (num : Int) (tk : Int) (tks : List Ty) (uk : Int) (uks : List Ty) (label place : Int) (x : Tm) (ht : tmright (Tm.node 10 name arg num tk tks uk uks label place [x]) = true) (cx : AtC x) : WordsC 107 (Tm.node 10 name arg num tk tks uk uks label place [x]) := by
  intro ws hb
  have hW : tmW (Tm.node 10 name arg num tk tks uk uks label place [x]) = [bw [102, 115, 116]] ++ tmA 4 x := rfl
  rw [hW] at hb ⊢
  clear hW
  simp only [List.length_append, List.length_cons, List.length_nil] at hb
  have dx := cx 4
  generalize tmA 4 x = sx at hb dx ⊢
  simp only [AtC, wObj] at hb dx
  unfold wObj
  refine ACall.body tab_ok (ρ := 0) (N := 48) Tryz.func107 rfl rfl rfl rfl rfl ?_
  repeat' first | ((refine And.intro (⟨by decide, by first | decide | (simp [Tm.rows]; done) | (simp [Tm.rows]; decide)⟩ : _ ∧ _) ?_; conv => whnf)) | ((intro row hrow; obtain rfl := Option.some.inj hrow; conv => whnf)) | refine AW.seq ?_ | refine AW.block ?_ | (refine (_root_.id : AW _ _ _ (.region 0 _ true) _ _ → _) ?_; refine AW.draw (id := 0) tab_ok mixed [0, 1, 2, 3, 4, 5, 6, 7, 8, 9, 10, 11, 12, 13] (by kernel_rfl) ?_; conv => whnf) | ((first | refine AW.region tab_ok ?_ | refine AW.cond ?_ | refine AW.skip ?_ | refine AW.ret ?_ | refine AW.exit ?_); conv => whnf) | ((first | refine (dx _ (by first | omega | (simp only [List.length_append, List.length_cons, List.length_nil]; omega))).mono ?_ | refine (put_call _ [bw [102, 115, 116]] (by first | omega | (simp only [List.length_append, List.length_cons, List.length_nil]; omega))).mono ?_); rintro _ _ ⟨rfl, rfl⟩; conv => whnf) | ((first | refine And.intro (@rfl Val _) ?_ | refine And.intro (by decide) ?_ | refine cs (fun _ => ?_) (fun _ => ?_)) <;> conv => whnf)
  all_goals first | exact ⟨rfl, rfl⟩ | (refine ⟨rfl, ?_⟩; simp only [List.append_assoc]; rfl)
set_option maxRecDepth 10000 in
theorem wterm_10 (name arg : ByteArray) (num : Int) (tk : Int) (tks : List Ty) (uk : Int) (uks : List Ty) (label place : Int) (ks : List Tm) (h : WordsC 107 (Tm.node 10 name arg num tk tks uk uks label place ks)) : WordsC 56 (Tm.node 10 name arg num tk tks uk uks label place ks) := by
  intro ws hb
  have d := h ws hb
  generalize tmW (Tm.node 10 name arg num tk tks uk uks label place ks) = s at *
  unfold wObj at d ⊢
  refine ACall.body tab_ok (ρ := 0) (N := 165) Tryz.func56 rfl rfl rfl rfl rfl ?_
  repeat' first | refine AW.seq ?_ | refine AW.block ?_ | (refine (_root_.id : AW _ _ _ (.region 3 _ true) _ _ → _) ?_; refine AW.draw (id := 3) tab_ok mixed [0, 1, 2, 3, 4, 5, 6, 7, 8, 9] (by kernel_rfl) ?_; conv => whnf) | (refine (_root_.id : AW _ _ _ (.region 10 _ true) _ _ → _) ?_; refine AW.draw (id := 10) tab_ok mixed [0, 1, 2, 3, 4, 5, 6, 7, 8, 9, 10, 11] (by kernel_rfl) ?_; conv => whnf) | (refine (_root_.id : AW _ _ _ (.region 11 _ true) _ _ → _) ?_; refine AW.draw (id := 11) tab_ok mixed [0, 1, 2, 3, 4, 5, 6, 7, 8, 9, 10] (by kernel_rfl) ?_; conv => whnf) | ((first | refine AW.region tab_ok ?_ | refine AW.cond ?_ | refine AW.skip ?_ | refine AW.ret ?_ | refine AW.exit ?_); conv => whnf) | (refine (d).mono ?_; rintro _ _ ⟨rfl, rfl⟩; conv => whnf) | ((first | refine And.intro (@rfl Val _) ?_ | refine And.intro (by decide) ?_ | refine cs (fun _ => ?_) (fun _ => ?_)) <;> conv => whnf)
  all_goals first | exact ⟨rfl, rfl⟩
set_option maxRecDepth 10000 in
set_option maxHeartbeats 2000000 in
theorem wprefix_11 (name arg : ByteArray) (num : Int) (tk : Int) (tks : List Ty) (uk : Int) (uks : List Ty) (label place : Int) (x : Tm) (ht : tmright (Tm.node 11 name arg num tk tks uk uks label place [x]) = true) (cx : AtC x) : WordsC 107 (Tm.node 11 name arg num tk tks uk uks label place [x]) := by
  intro ws hb
  have hW : tmW (Tm.node 11 name arg num tk tks uk uks label place [x]) = [bw [115, 110, 100]] ++ tmA 4 x := rfl
  rw [hW] at hb ⊢
  clear hW
  simp only [List.length_append, List.length_cons, List.length_nil] at hb
  have dx := cx 4
  generalize tmA 4 x = sx at hb dx ⊢
  simp only [AtC, wObj] at hb dx
  unfold wObj
  refine ACall.body tab_ok (ρ := 0) (N := 48) Tryz.func107 rfl rfl rfl rfl rfl ?_
  repeat' first | ((refine And.intro (⟨by decide, by first | decide | (simp [Tm.rows]; done) | (simp [Tm.rows]; decide)⟩ : _ ∧ _) ?_; conv => whnf)) | ((intro row hrow; obtain rfl := Option.some.inj hrow; conv => whnf)) | refine AW.seq ?_ | refine AW.block ?_ | (refine (_root_.id : AW _ _ _ (.region 0 _ true) _ _ → _) ?_; refine AW.draw (id := 0) tab_ok mixed [0, 1, 2, 3, 4, 5, 6, 7, 8, 9, 10, 11, 12, 13] (by kernel_rfl) ?_; conv => whnf) | ((first | refine AW.region tab_ok ?_ | refine AW.cond ?_ | refine AW.skip ?_ | refine AW.ret ?_ | refine AW.exit ?_); conv => whnf) | ((first | refine (dx _ (by first | omega | (simp only [List.length_append, List.length_cons, List.length_nil]; omega))).mono ?_ | refine (put_call _ [bw [115, 110, 100]] (by first | omega | (simp only [List.length_append, List.length_cons, List.length_nil]; omega))).mono ?_); rintro _ _ ⟨rfl, rfl⟩; conv => whnf) | ((first | refine And.intro (@rfl Val _) ?_ | refine And.intro (by decide) ?_ | refine cs (fun _ => ?_) (fun _ => ?_)) <;> conv => whnf)
  all_goals first | exact ⟨rfl, rfl⟩ | (refine ⟨rfl, ?_⟩; simp only [List.append_assoc]; rfl)
set_option maxRecDepth 10000 in
theorem wterm_11 (name arg : ByteArray) (num : Int) (tk : Int) (tks : List Ty) (uk : Int) (uks : List Ty) (label place : Int) (ks : List Tm) (h : WordsC 107 (Tm.node 11 name arg num tk tks uk uks label place ks)) : WordsC 56 (Tm.node 11 name arg num tk tks uk uks label place ks) := by
  intro ws hb
  have d := h ws hb
  generalize tmW (Tm.node 11 name arg num tk tks uk uks label place ks) = s at *
  unfold wObj at d ⊢
  refine ACall.body tab_ok (ρ := 0) (N := 165) Tryz.func56 rfl rfl rfl rfl rfl ?_
  repeat' first | refine AW.seq ?_ | refine AW.block ?_ | (refine (_root_.id : AW _ _ _ (.region 3 _ true) _ _ → _) ?_; refine AW.draw (id := 3) tab_ok mixed [0, 1, 2, 3, 4, 5, 6, 7, 8, 9] (by kernel_rfl) ?_; conv => whnf) | (refine (_root_.id : AW _ _ _ (.region 10 _ true) _ _ → _) ?_; refine AW.draw (id := 10) tab_ok mixed [0, 1, 2, 3, 4, 5, 6, 7, 8, 9, 10, 11] (by kernel_rfl) ?_; conv => whnf) | (refine (_root_.id : AW _ _ _ (.region 11 _ true) _ _ → _) ?_; refine AW.draw (id := 11) tab_ok mixed [0, 1, 2, 3, 4, 5, 6, 7, 8, 9, 10] (by kernel_rfl) ?_; conv => whnf) | ((first | refine AW.region tab_ok ?_ | refine AW.cond ?_ | refine AW.skip ?_ | refine AW.ret ?_ | refine AW.exit ?_); conv => whnf) | (refine (d).mono ?_; rintro _ _ ⟨rfl, rfl⟩; conv => whnf) | ((first | refine And.intro (@rfl Val _) ?_ | refine And.intro (by decide) ?_ | refine cs (fun _ => ?_) (fun _ => ?_)) <;> conv => whnf)
  all_goals first | exact ⟨rfl, rfl⟩
set_option maxRecDepth 10000 in
set_option maxHeartbeats 2000000 in
theorem wprefix_12 (name arg : ByteArray) (num : Int) (tk : Int) (tks : List Ty) (uk : Int) (uks : List Ty) (label place : Int) (x : Tm) (ht : tmright (Tm.node 12 name arg num tk tks uk uks label place [x]) = true) (cx : AtC x) : WordsC 107 (Tm.node 12 name arg num tk tks uk uks label place [x]) := by
  intro ws hb
  have hW : tmW (Tm.node 12 name arg num tk tks uk uks label place [x]) = [bw [105, 110, 108]] ++ [bw [123]] ++ [bw (tyO (.node tk tks))] ++ [bw [125]] ++ tmA 4 x := rfl
  rw [hW] at hb ⊢
  clear hW
  simp only [List.length_append, List.length_cons, List.length_nil] at hb
  have dtk := wkind_call (.node tk tks) ((tmright_own ht).1 rfl)
  generalize bw (tyO (.node tk tks)) = stk at hb dtk ⊢
  have dx := cx 4
  generalize tmA 4 x = sx at hb dx ⊢
  simp only [AtC, wObj] at hb dtk dx
  unfold wObj
  refine ACall.body tab_ok (ρ := 0) (N := 48) Tryz.func107 rfl rfl rfl rfl rfl ?_
  repeat' first | ((refine And.intro (⟨by decide, by first | decide | (simp [Tm.rows]; done) | (simp [Tm.rows]; decide)⟩ : _ ∧ _) ?_; conv => whnf)) | ((intro row hrow; obtain rfl := Option.some.inj hrow; conv => whnf)) | refine AW.seq ?_ | refine AW.block ?_ | (refine (_root_.id : AW _ _ _ (.region 0 _ true) _ _ → _) ?_; refine AW.draw (id := 0) tab_ok mixed [0, 1, 2, 3, 4, 5, 6, 7, 8, 9, 10, 11, 12, 13] (by kernel_rfl) ?_; conv => whnf) | ((first | refine AW.region tab_ok ?_ | refine AW.cond ?_ | refine AW.skip ?_ | refine AW.ret ?_ | refine AW.exit ?_); conv => whnf) | ((first | refine (dtk _ (by first | omega | (simp only [List.length_append, List.length_cons, List.length_nil]; omega))).mono ?_ | refine (dx _ (by first | omega | (simp only [List.length_append, List.length_cons, List.length_nil]; omega))).mono ?_ | refine (put_call _ [bw [105, 110, 108]] (by first | omega | (simp only [List.length_append, List.length_cons, List.length_nil]; omega))).mono ?_ | refine (put_call _ [bw [123]] (by first | omega | (simp only [List.length_append, List.length_cons, List.length_nil]; omega))).mono ?_ | refine (put_call _ [bw [125]] (by first | omega | (simp only [List.length_append, List.length_cons, List.length_nil]; omega))).mono ?_); rintro _ _ ⟨rfl, rfl⟩; conv => whnf) | ((first | refine And.intro (@rfl Val _) ?_ | refine And.intro (by decide) ?_ | refine cs (fun _ => ?_) (fun _ => ?_)) <;> conv => whnf)
  all_goals first | exact ⟨rfl, rfl⟩ | (refine ⟨rfl, ?_⟩; simp only [List.append_assoc]; rfl)
set_option maxRecDepth 10000 in
theorem wterm_12 (name arg : ByteArray) (num : Int) (tk : Int) (tks : List Ty) (uk : Int) (uks : List Ty) (label place : Int) (ks : List Tm) (h : WordsC 107 (Tm.node 12 name arg num tk tks uk uks label place ks)) : WordsC 56 (Tm.node 12 name arg num tk tks uk uks label place ks) := by
  intro ws hb
  have d := h ws hb
  generalize tmW (Tm.node 12 name arg num tk tks uk uks label place ks) = s at *
  unfold wObj at d ⊢
  refine ACall.body tab_ok (ρ := 0) (N := 165) Tryz.func56 rfl rfl rfl rfl rfl ?_
  repeat' first | refine AW.seq ?_ | refine AW.block ?_ | (refine (_root_.id : AW _ _ _ (.region 3 _ true) _ _ → _) ?_; refine AW.draw (id := 3) tab_ok mixed [0, 1, 2, 3, 4, 5, 6, 7, 8, 9] (by kernel_rfl) ?_; conv => whnf) | (refine (_root_.id : AW _ _ _ (.region 10 _ true) _ _ → _) ?_; refine AW.draw (id := 10) tab_ok mixed [0, 1, 2, 3, 4, 5, 6, 7, 8, 9, 10, 11] (by kernel_rfl) ?_; conv => whnf) | (refine (_root_.id : AW _ _ _ (.region 11 _ true) _ _ → _) ?_; refine AW.draw (id := 11) tab_ok mixed [0, 1, 2, 3, 4, 5, 6, 7, 8, 9, 10] (by kernel_rfl) ?_; conv => whnf) | ((first | refine AW.region tab_ok ?_ | refine AW.cond ?_ | refine AW.skip ?_ | refine AW.ret ?_ | refine AW.exit ?_); conv => whnf) | (refine (d).mono ?_; rintro _ _ ⟨rfl, rfl⟩; conv => whnf) | ((first | refine And.intro (@rfl Val _) ?_ | refine And.intro (by decide) ?_ | refine cs (fun _ => ?_) (fun _ => ?_)) <;> conv => whnf)
  all_goals first | exact ⟨rfl, rfl⟩
set_option maxRecDepth 10000 in
set_option maxHeartbeats 2000000 in
theorem wprefix_13 (name arg : ByteArray) (num : Int) (tk : Int) (tks : List Ty) (uk : Int) (uks : List Ty) (label place : Int) (x : Tm) (ht : tmright (Tm.node 13 name arg num tk tks uk uks label place [x]) = true) (cx : AtC x) : WordsC 107 (Tm.node 13 name arg num tk tks uk uks label place [x]) := by
  intro ws hb
  have hW : tmW (Tm.node 13 name arg num tk tks uk uks label place [x]) = [bw [105, 110, 114]] ++ [bw [123]] ++ [bw (tyO (.node tk tks))] ++ [bw [125]] ++ tmA 4 x := rfl
  rw [hW] at hb ⊢
  clear hW
  simp only [List.length_append, List.length_cons, List.length_nil] at hb
  have dtk := wkind_call (.node tk tks) ((tmright_own ht).1 rfl)
  generalize bw (tyO (.node tk tks)) = stk at hb dtk ⊢
  have dx := cx 4
  generalize tmA 4 x = sx at hb dx ⊢
  simp only [AtC, wObj] at hb dtk dx
  unfold wObj
  refine ACall.body tab_ok (ρ := 0) (N := 48) Tryz.func107 rfl rfl rfl rfl rfl ?_
  repeat' first | ((refine And.intro (⟨by decide, by first | decide | (simp [Tm.rows]; done) | (simp [Tm.rows]; decide)⟩ : _ ∧ _) ?_; conv => whnf)) | ((intro row hrow; obtain rfl := Option.some.inj hrow; conv => whnf)) | refine AW.seq ?_ | refine AW.block ?_ | (refine (_root_.id : AW _ _ _ (.region 0 _ true) _ _ → _) ?_; refine AW.draw (id := 0) tab_ok mixed [0, 1, 2, 3, 4, 5, 6, 7, 8, 9, 10, 11, 12, 13] (by kernel_rfl) ?_; conv => whnf) | ((first | refine AW.region tab_ok ?_ | refine AW.cond ?_ | refine AW.skip ?_ | refine AW.ret ?_ | refine AW.exit ?_); conv => whnf) | ((first | refine (dtk _ (by first | omega | (simp only [List.length_append, List.length_cons, List.length_nil]; omega))).mono ?_ | refine (dx _ (by first | omega | (simp only [List.length_append, List.length_cons, List.length_nil]; omega))).mono ?_ | refine (put_call _ [bw [105, 110, 114]] (by first | omega | (simp only [List.length_append, List.length_cons, List.length_nil]; omega))).mono ?_ | refine (put_call _ [bw [123]] (by first | omega | (simp only [List.length_append, List.length_cons, List.length_nil]; omega))).mono ?_ | refine (put_call _ [bw [125]] (by first | omega | (simp only [List.length_append, List.length_cons, List.length_nil]; omega))).mono ?_); rintro _ _ ⟨rfl, rfl⟩; conv => whnf) | ((first | refine And.intro (@rfl Val _) ?_ | refine And.intro (by decide) ?_ | refine cs (fun _ => ?_) (fun _ => ?_)) <;> conv => whnf)
  all_goals first | exact ⟨rfl, rfl⟩ | (refine ⟨rfl, ?_⟩; simp only [List.append_assoc]; rfl)
set_option maxRecDepth 10000 in
theorem wterm_13 (name arg : ByteArray) (num : Int) (tk : Int) (tks : List Ty) (uk : Int) (uks : List Ty) (label place : Int) (ks : List Tm) (h : WordsC 107 (Tm.node 13 name arg num tk tks uk uks label place ks)) : WordsC 56 (Tm.node 13 name arg num tk tks uk uks label place ks) := by
  intro ws hb
  have d := h ws hb
  generalize tmW (Tm.node 13 name arg num tk tks uk uks label place ks) = s at *
  unfold wObj at d ⊢
  refine ACall.body tab_ok (ρ := 0) (N := 165) Tryz.func56 rfl rfl rfl rfl rfl ?_
  repeat' first | refine AW.seq ?_ | refine AW.block ?_ | (refine (_root_.id : AW _ _ _ (.region 3 _ true) _ _ → _) ?_; refine AW.draw (id := 3) tab_ok mixed [0, 1, 2, 3, 4, 5, 6, 7, 8, 9] (by kernel_rfl) ?_; conv => whnf) | (refine (_root_.id : AW _ _ _ (.region 10 _ true) _ _ → _) ?_; refine AW.draw (id := 10) tab_ok mixed [0, 1, 2, 3, 4, 5, 6, 7, 8, 9, 10, 11] (by kernel_rfl) ?_; conv => whnf) | (refine (_root_.id : AW _ _ _ (.region 11 _ true) _ _ → _) ?_; refine AW.draw (id := 11) tab_ok mixed [0, 1, 2, 3, 4, 5, 6, 7, 8, 9, 10] (by kernel_rfl) ?_; conv => whnf) | ((first | refine AW.region tab_ok ?_ | refine AW.cond ?_ | refine AW.skip ?_ | refine AW.ret ?_ | refine AW.exit ?_); conv => whnf) | (refine (d).mono ?_; rintro _ _ ⟨rfl, rfl⟩; conv => whnf) | ((first | refine And.intro (@rfl Val _) ?_ | refine And.intro (by decide) ?_ | refine cs (fun _ => ?_) (fun _ => ?_)) <;> conv => whnf)
  all_goals first | exact ⟨rfl, rfl⟩
end Go.Proofs.YtmaokphbfjpodaaGreatDoor.E

/- Walks: the writer, by kinds (printed by mk42.py). No conditions. -/
set_option linter.unusedVariables false
set_option linter.unusedSimpArgs false
namespace Go.Proofs.YtmaokphbfjpodaaGreatDoor.E
open Go

set_option maxRecDepth 10000 in
set_option maxHeartbeats 2000000 in
theorem wbinder_4 (name arg : ByteArray) (num : Int) (tk : Int) (tks : List Ty) (uk : Int) (uks : List Ty) (label place : Int) (x : Tm) (ht : tmright (Tm.node 4 name arg num tk tks uk uks label place [x]) = true) (cx : AtC x) : WordsC 110 (Tm.node 4 name arg num tk tks uk uks label place [x]) := by
  intro ws hb
  have hW : tmW (Tm.node 4 name arg num tk tks uk uks label place [x]) = [bw [92], name, bw [58]] ++ [bw (tyO (.node tk tks))] ++ [bw [46]] ++ tmA (-1) x := rfl
  rw [hW] at hb ⊢
  clear hW
  simp only [List.length_append, List.length_cons, List.length_nil] at hb
  have dtk := wkind_call (.node tk tks) ((tmright_own ht).1 rfl)
  generalize bw (tyO (.node tk tks)) = stk at hb dtk ⊢
  have dx := cx (-1)
  generalize tmA (-1) x = sx at hb dx ⊢
  simp only [AtC, wObj] at hb dtk dx
  unfold wObj
  refine ACall.body tab_ok (ρ := 0) (N := 220) Tryz.func110 rfl rfl rfl rfl rfl ?_
  repeat' first | ((refine And.intro (⟨by decide, by first | decide | (simp [Tm.rows]; done) | (simp [Tm.rows]; decide)⟩ : _ ∧ _) ?_; conv => whnf)) | ((intro row hrow; obtain rfl := Option.some.inj hrow; conv => whnf)) | refine AW.seq ?_ | refine AW.block ?_ | (refine (_root_.id : AW _ _ _ (.region 2 _ true) _ _ → _) ?_; refine AW.draw (id := 2) tab_ok mixed [0, 1, 2, 3, 4, 5, 6, 7, 8, 9] (by kernel_rfl) ?_; conv => whnf) | (refine (_root_.id : AW _ _ _ (.region 7 _ true) _ _ → _) ?_; refine AW.draw (id := 7) tab_ok mixed [0, 1, 2, 3, 4, 5, 6, 7, 8, 9, 10, 11, 12, 13] (by kernel_rfl) ?_; conv => whnf) | (refine (_root_.id : AW _ _ _ (.region 14 _ true) _ _ → _) ?_; refine AW.draw (id := 14) tab_ok mixed [0, 1, 2, 3, 4, 5, 6, 7, 8, 9] (by kernel_rfl) ?_; conv => whnf) | (refine (_root_.id : AW _ _ _ (.region 30 _ true) _ _ → _) ?_; refine AW.draw (id := 30) tab_ok mixed [0, 1, 2, 3, 4, 5, 6, 7, 8, 9] (by kernel_rfl) ?_; conv => whnf) | (refine (_root_.id : AW _ _ _ (.region 32 _ true) _ _ → _) ?_; refine AW.draw (id := 32) tab_ok mixed [0, 1, 2, 3, 4, 5, 6, 7, 8, 9] (by kernel_rfl) ?_; conv => whnf) | ((first | refine AW.region tab_ok ?_ | refine AW.cond ?_ | refine AW.skip ?_ | refine AW.ret ?_ | refine AW.exit ?_); conv => whnf) | ((first | refine (dtk _ (by first | omega | (simp only [List.length_append, List.length_cons, List.length_nil]; omega))).mono ?_ | refine (dx _ (by first | omega | (simp only [List.length_append, List.length_cons, List.length_nil]; omega))).mono ?_ | refine (put_call _ [bw [92], name, bw [58]] (by first | omega | (simp only [List.length_append, List.length_cons, List.length_nil]; omega))).mono ?_ | refine (put_call _ [bw [46]] (by first | omega | (simp only [List.length_append, List.length_cons, List.length_nil]; omega))).mono ?_); rintro _ _ ⟨rfl, rfl⟩; conv => whnf) | ((first | refine And.intro (@rfl Val _) ?_ | refine And.intro (by decide) ?_ | refine cs (fun _ => ?_) (fun _ => ?_)) <;> conv => whnf)
  all_goals first | exact ⟨rfl, rfl⟩ | (refine ⟨rfl, ?_⟩; simp only [List.append_assoc]; rfl)
set_option maxRecDepth 10000 in
theorem wterm_4 (name arg : ByteArray) (num : Int) (tk : Int) (tks : List Ty) (uk : Int) (uks : List Ty) (label place : Int) (ks : List Tm) (h : WordsC 110 (Tm.node 4 name arg num tk tks uk uks label place ks)) : WordsC 56 (Tm.node 4 name arg num tk tks uk uks label place ks) := by
  intro ws hb
  have d := h ws hb
  generalize tmW (Tm.node 4 name arg num tk tks uk uks label place ks) = s at *
  unfold wObj at d ⊢
  refine ACall.body tab_ok (ρ := 0) (N := 165) Tryz.func56 rfl rfl rfl rfl rfl ?_
  repeat' first | refine AW.seq ?_ | refine AW.block ?_ | (refine (_root_.id : AW _ _ _ (.region 3 _ true) _ _ → _) ?_; refine AW.draw (id := 3) tab_ok mixed [0, 1, 2, 3, 4, 5, 6, 7, 8, 9] (by kernel_rfl) ?_; conv => whnf) | (refine (_root_.id : AW _ _ _ (.region 10 _ true) _ _ → _) ?_; refine AW.draw (id := 10) tab_ok mixed [0, 1, 2, 3, 4, 5, 6, 7, 8, 9, 10, 11] (by kernel_rfl) ?_; conv => whnf) | (refine (_root_.id : AW _ _ _ (.region 11 _ true) _ _ → _) ?_; refine AW.draw (id := 11) tab_ok mixed [0, 1, 2, 3, 4, 5, 6, 7, 8, 9, 10] (by kernel_rfl) ?_; conv => whnf) | ((first | refine AW.region tab_ok ?_ | refine AW.cond ?_ | refine AW.skip ?_ | refine AW.ret ?_ | refine AW.exit ?_); conv => whnf) | (refine (d).mono ?_; rintro _ _ ⟨rfl, rfl⟩; conv => whnf) | ((first | refine And.intro (@rfl Val _) ?_ | refine And.intro (by decide) ?_ | refine cs (fun _ => ?_) (fun _ => ?_)) <;> conv => whnf)
  all_goals first | exact ⟨rfl, rfl⟩
set_option maxRecDepth 10000 in
set_option maxHeartbeats 2000000 in
theorem wbinder_5 (name arg : ByteArray) (num : Int) (tk : Int) (tks : List Ty) (uk : Int) (uks : List Ty) (label place : Int) (x : Tm) (ht : tmright (Tm.node 5 name arg num tk tks uk uks label place [x]) = true) (cx : AtC x) : WordsC 110 (Tm.node 5 name arg num tk tks uk uks label place [x]) := by
  intro ws hb
  have hW : tmW (Tm.node 5 name arg num tk tks uk uks label place [x]) = [bw [114, 101, 99], name, bw [40], arg, bw [58]] ++ [bw (tyO (.node tk tks))] ++ [bw [41], bw [58]] ++ [bw (tyO (.node uk uks))] ++ [bw [46]] ++ tmA (-1) x := rfl
  rw [hW] at hb ⊢
  clear hW
  simp only [List.length_append, List.length_cons, List.length_nil] at hb
  have dtk := wkind_call (.node tk tks) ((tmright_own ht).1 rfl)
  generalize bw (tyO (.node tk tks)) = stk at hb dtk ⊢
  have duk := wkind_call (.node uk uks) ((tmright_own ht).2 rfl)
  generalize bw (tyO (.node uk uks)) = suk at hb duk ⊢
  have dx := cx (-1)
  generalize tmA (-1) x = sx at hb dx ⊢
  simp only [AtC, wObj] at hb dtk duk dx
  unfold wObj
  refine ACall.body tab_ok (ρ := 0) (N := 220) Tryz.func110 rfl rfl rfl rfl rfl ?_
  repeat' first | ((refine And.intro (⟨by decide, by first | decide | (simp [Tm.rows]; done) | (simp [Tm.rows]; decide)⟩ : _ ∧ _) ?_; conv => whnf)) | ((intro row hrow; obtain rfl := Option.some.inj hrow; conv => whnf)) | refine AW.seq ?_ | refine AW.block ?_ | (refine (_root_.id : AW _ _ _ (.region 2 _ true) _ _ → _) ?_; refine AW.draw (id := 2) tab_ok mixed [0, 1, 2, 3, 4, 5, 6, 7, 8, 9] (by kernel_rfl) ?_; conv => whnf) | (refine (_root_.id : AW _ _ _ (.region 7 _ true) _ _ → _) ?_; refine AW.draw (id := 7) tab_ok mixed [0, 1, 2, 3, 4, 5, 6, 7, 8, 9, 10, 11, 12, 13] (by kernel_rfl) ?_; conv => whnf) | (refine (_root_.id : AW _ _ _ (.region 14 _ true) _ _ → _) ?_; refine AW.draw (id := 14) tab_ok mixed [0, 1, 2, 3, 4, 5, 6, 7, 8, 9] (by kernel_rfl) ?_; conv => whnf) | (refine (_root_.id : AW _ _ _ (.region 30 _ true) _ _ → _) ?_; refine AW.draw (id := 30) tab_ok mixed [0, 1, 2, 3, 4, 5, 6, 7, 8, 9] (by kernel_rfl) ?_; conv => whnf) | (refine (_root_.id : AW _ _ _ (.region 32 _ true) _ _ → _) ?_; refine AW.draw (id := 32) tab_ok mixed [0, 1, 2, 3, 4, 5, 6, 7, 8, 9] (by kernel_rfl) ?_; conv => whnf) | ((first | refine AW.region tab_ok ?_ | refine AW.cond ?_ | refine AW.skip ?_ | refine AW.ret ?_ | refine AW.exit ?_); conv => whnf) | ((first | refine (dtk _ (by first | omega | (simp only [List.length_append, List.length_cons, List.length_nil]; omega))).mono ?_ | refine (duk _ (by first | omega | (simp only [List.length_append, List.length_cons, List.length_nil]; omega))).mono ?_ | refine (dx _ (by first | omega | (simp only [List.length_append, List.length_cons, List.length_nil]; omega))).mono ?_ | refine (put_call _ [bw [114, 101, 99], name, bw [40], arg, bw [58]] (by first | omega | (simp only [List.length_append, List.length_cons, List.length_nil]; omega))).mono ?_ | refine (put_call _ [bw [41], bw [58]] (by first | omega | (simp only [List.length_append, List.length_cons, List.length_nil]; omega))).mono ?_ | refine (put_call _ [bw [46]] (by first | omega | (simp only [List.length_append, List.length_cons, List.length_nil]; omega))).mono ?_); rintro _ _ ⟨rfl, rfl⟩; conv => whnf) | ((first | refine And.intro (@rfl Val _) ?_ | refine And.intro (by decide) ?_ | refine cs (fun _ => ?_) (fun _ => ?_)) <;> conv => whnf)
  all_goals first | exact ⟨rfl, rfl⟩ | (refine ⟨rfl, ?_⟩; simp only [List.append_assoc]; rfl)
set_option maxRecDepth 10000 in
theorem wterm_5 (name arg : ByteArray) (num : Int) (tk : Int) (tks : List Ty) (uk : Int) (uks : List Ty) (label place : Int) (ks : List Tm) (h : WordsC 110 (Tm.node 5 name arg num tk tks uk uks label place ks)) : WordsC 56 (Tm.node 5 name arg num tk tks uk uks label place ks) := by
  intro ws hb
  have d := h ws hb
  generalize tmW (Tm.node 5 name arg num tk tks uk uks label place ks) = s at *
  unfold wObj at d ⊢
  refine ACall.body tab_ok (ρ := 0) (N := 165) Tryz.func56 rfl rfl rfl rfl rfl ?_
  repeat' first | refine AW.seq ?_ | refine AW.block ?_ | (refine (_root_.id : AW _ _ _ (.region 3 _ true) _ _ → _) ?_; refine AW.draw (id := 3) tab_ok mixed [0, 1, 2, 3, 4, 5, 6, 7, 8, 9] (by kernel_rfl) ?_; conv => whnf) | (refine (_root_.id : AW _ _ _ (.region 10 _ true) _ _ → _) ?_; refine AW.draw (id := 10) tab_ok mixed [0, 1, 2, 3, 4, 5, 6, 7, 8, 9, 10, 11] (by kernel_rfl) ?_; conv => whnf) | (refine (_root_.id : AW _ _ _ (.region 11 _ true) _ _ → _) ?_; refine AW.draw (id := 11) tab_ok mixed [0, 1, 2, 3, 4, 5, 6, 7, 8, 9, 10] (by kernel_rfl) ?_; conv => whnf) | ((first | refine AW.region tab_ok ?_ | refine AW.cond ?_ | refine AW.skip ?_ | refine AW.ret ?_ | refine AW.exit ?_); conv => whnf) | (refine (d).mono ?_; rintro _ _ ⟨rfl, rfl⟩; conv => whnf) | ((first | refine And.intro (@rfl Val _) ?_ | refine And.intro (by decide) ?_ | refine cs (fun _ => ?_) (fun _ => ?_)) <;> conv => whnf)
  all_goals first | exact ⟨rfl, rfl⟩
set_option maxRecDepth 10000 in
set_option maxHeartbeats 2000000 in
theorem wbinder_7 (name arg : ByteArray) (num : Int) (tk : Int) (tks : List Ty) (uk : Int) (uks : List Ty) (label place : Int) (x y : Tm) (ht : tmright (Tm.node 7 name arg num tk tks uk uks label place [x, y]) = true) (cx : AtC x) (cy : AtC y) : WordsC 110 (Tm.node 7 name arg num tk tks uk uks label place [x, y]) := by
  intro ws hb
  have hW : tmW (Tm.node 7 name arg num tk tks uk uks label place [x, y]) = [bw [108, 101, 116], name, bw [58]] ++ [bw (tyO (.node tk tks))] ++ [bw [61]] ++ tmA (-1) x ++ [bw [105, 110]] ++ tmA (-1) y := rfl
  rw [hW] at hb ⊢
  clear hW
  simp only [List.length_append, List.length_cons, List.length_nil] at hb
  have dtk := wkind_call (.node tk tks) ((tmright_own ht).1 rfl)
  generalize bw (tyO (.node tk tks)) = stk at hb dtk ⊢
  have dx := cx (-1)
  generalize tmA (-1) x = sx at hb dx ⊢
  have dy := cy (-1)
  generalize tmA (-1) y = sy at hb dy ⊢
  simp only [AtC, wObj] at hb dtk dx dy
  unfold wObj
  refine ACall.body tab_ok (ρ := 0) (N := 220) Tryz.func110 rfl rfl rfl rfl rfl ?_
  repeat' first | ((refine And.intro (⟨by decide, by first | decide | (simp [Tm.rows]; done) | (simp [Tm.rows]; decide)⟩ : _ ∧ _) ?_; conv => whnf)) | ((intro row hrow; obtain rfl := Option.some.inj hrow; conv => whnf)) | refine AW.seq ?_ | refine AW.block ?_ | (refine (_root_.id : AW _ _ _ (.region 2 _ true) _ _ → _) ?_; refine AW.draw (id := 2) tab_ok mixed [0, 1, 2, 3, 4, 5, 6, 7, 8, 9] (by kernel_rfl) ?_; conv => whnf) | (refine (_root_.id : AW _ _ _ (.region 7 _ true) _ _ → _) ?_; refine AW.draw (id := 7) tab_ok mixed [0, 1, 2, 3, 4, 5, 6, 7, 8, 9, 10, 11, 12, 13] (by kernel_rfl) ?_; conv => whnf) | (refine (_root_.id : AW _ _ _ (.region 14 _ true) _ _ → _) ?_; refine AW.draw (id := 14) tab_ok mixed [0, 1, 2, 3, 4, 5, 6, 7, 8, 9] (by kernel_rfl) ?_; conv => whnf) | (refine (_root_.id : AW _ _ _ (.region 30 _ true) _ _ → _) ?_; refine AW.draw (id := 30) tab_ok mixed [0, 1, 2, 3, 4, 5, 6, 7, 8, 9] (by kernel_rfl) ?_; conv => whnf) | (refine (_root_.id : AW _ _ _ (.region 32 _ true) _ _ → _) ?_; refine AW.draw (id := 32) tab_ok mixed [0, 1, 2, 3, 4, 5, 6, 7, 8, 9] (by kernel_rfl) ?_; conv => whnf) | ((first | refine AW.region tab_ok ?_ | refine AW.cond ?_ | refine AW.skip ?_ | refine AW.ret ?_ | refine AW.exit ?_); conv => whnf) | ((first | refine (dtk _ (by first | omega | (simp only [List.length_append, List.length_cons, List.length_nil]; omega))).mono ?_ | refine (dx _ (by first | omega | (simp only [List.length_append, List.length_cons, List.length_nil]; omega))).mono ?_ | refine (dy _ (by first | omega | (simp only [List.length_append, List.length_cons, List.length_nil]; omega))).mono ?_ | refine (put_call _ [bw [108, 101, 116], name, bw [58]] (by first | omega | (simp only [List.length_append, List.length_cons, List.length_nil]; omega))).mono ?_ | refine (put_call _ [bw [61]] (by first | omega | (simp only [List.length_append, List.length_cons, List.length_nil]; omega))).mono ?_ | refine (put_call _ [bw [105, 110]] (by first | omega | (simp only [List.length_append, List.length_cons, List.length_nil]; omega))).mono ?_); rintro _ _ ⟨rfl, rfl⟩; conv => whnf) | ((first | refine And.intro (@rfl Val _) ?_ | refine And.intro (by decide) ?_ | refine cs (fun _ => ?_) (fun _ => ?_)) <;> conv => whnf)
  all_goals first | exact ⟨rfl, rfl⟩ | (refine ⟨rfl, ?_⟩; simp only [List.append_assoc]; rfl)
set_option maxRecDepth 10000 in
theorem wterm_7 (name arg : ByteArray) (num : Int) (tk : Int) (tks : List Ty) (uk : Int) (uks : List Ty) (label place : Int) (ks : List Tm) (h : WordsC 110 (Tm.node 7 name arg num tk tks uk uks label place ks)) : WordsC 56 (Tm.node 7 name arg num tk tks uk uks label place ks) := by
  intro ws hb
  have d := h ws hb
  generalize tmW (Tm.node 7 name arg num tk tks uk uks label place ks) = s at *
  unfold wObj at d ⊢
  refine ACall.body tab_ok (ρ := 0) (N := 165) Tryz.func56 rfl rfl rfl rfl rfl ?_
  repeat' first | refine AW.seq ?_ | refine AW.block ?_ | (refine (_root_.id : AW _ _ _ (.region 3 _ true) _ _ → _) ?_; refine AW.draw (id := 3) tab_ok mixed [0, 1, 2, 3, 4, 5, 6, 7, 8, 9] (by kernel_rfl) ?_; conv => whnf) | (refine (_root_.id : AW _ _ _ (.region 10 _ true) _ _ → _) ?_; refine AW.draw (id := 10) tab_ok mixed [0, 1, 2, 3, 4, 5, 6, 7, 8, 9, 10, 11] (by kernel_rfl) ?_; conv => whnf) | (refine (_root_.id : AW _ _ _ (.region 11 _ true) _ _ → _) ?_; refine AW.draw (id := 11) tab_ok mixed [0, 1, 2, 3, 4, 5, 6, 7, 8, 9, 10] (by kernel_rfl) ?_; conv => whnf) | ((first | refine AW.region tab_ok ?_ | refine AW.cond ?_ | refine AW.skip ?_ | refine AW.ret ?_ | refine AW.exit ?_); conv => whnf) | (refine (d).mono ?_; rintro _ _ ⟨rfl, rfl⟩; conv => whnf) | ((first | refine And.intro (@rfl Val _) ?_ | refine And.intro (by decide) ?_ | refine cs (fun _ => ?_) (fun _ => ?_)) <;> conv => whnf)
  all_goals first | exact ⟨rfl, rfl⟩
end Go.Proofs.YtmaokphbfjpodaaGreatDoor.E

/- Walks: the writer, by kinds (printed by mk42.py). No conditions. -/
set_option linter.unusedVariables false
set_option linter.unusedSimpArgs false
namespace Go.Proofs.YtmaokphbfjpodaaGreatDoor.E
open Go

set_option maxRecDepth 10000 in
set_option maxHeartbeats 2000000 in
theorem wbinder_8 (name arg : ByteArray) (num : Int) (tk : Int) (tks : List Ty) (uk : Int) (uks : List Ty) (label place : Int) (x y z : Tm) (ht : tmright (Tm.node 8 name arg num tk tks uk uks label place [x, y, z]) = true) (cx : AtC x) (cy : AtC y) (cz : AtC z) : WordsC 110 (Tm.node 8 name arg num tk tks uk uks label place [x, y, z]) := by
  intro ws hb
  have hW : tmW (Tm.node 8 name arg num tk tks uk uks label place [x, y, z]) = [bw [105, 102]] ++ tmA (-1) x ++ [bw [116, 104, 101, 110]] ++ tmA (-1) y ++ [bw [101, 108, 115, 101]] ++ tmA (-1) z := rfl
  rw [hW] at hb ⊢
  clear hW
  simp only [List.length_append, List.length_cons, List.length_nil] at hb
  have dx := cx (-1)
  generalize tmA (-1) x = sx at hb dx ⊢
  have dy := cy (-1)
  generalize tmA (-1) y = sy at hb dy ⊢
  have dz := cz (-1)
  generalize tmA (-1) z = sz at hb dz ⊢
  simp only [AtC, wObj] at hb dx dy dz
  unfold wObj
  refine ACall.body tab_ok (ρ := 0) (N := 220) Tryz.func110 rfl rfl rfl rfl rfl ?_
  repeat' first | ((refine And.intro (⟨by decide, by first | decide | (simp [Tm.rows]; done) | (simp [Tm.rows]; decide)⟩ : _ ∧ _) ?_; conv => whnf)) | ((intro row hrow; obtain rfl := Option.some.inj hrow; conv => whnf)) | refine AW.seq ?_ | refine AW.block ?_ | (refine (_root_.id : AW _ _ _ (.region 2 _ true) _ _ → _) ?_; refine AW.draw (id := 2) tab_ok mixed [0, 1, 2, 3, 4, 5, 6, 7, 8, 9] (by kernel_rfl) ?_; conv => whnf) | (refine (_root_.id : AW _ _ _ (.region 7 _ true) _ _ → _) ?_; refine AW.draw (id := 7) tab_ok mixed [0, 1, 2, 3, 4, 5, 6, 7, 8, 9, 10, 11, 12, 13] (by kernel_rfl) ?_; conv => whnf) | (refine (_root_.id : AW _ _ _ (.region 14 _ true) _ _ → _) ?_; refine AW.draw (id := 14) tab_ok mixed [0, 1, 2, 3, 4, 5, 6, 7, 8, 9] (by kernel_rfl) ?_; conv => whnf) | (refine (_root_.id : AW _ _ _ (.region 30 _ true) _ _ → _) ?_; refine AW.draw (id := 30) tab_ok mixed [0, 1, 2, 3, 4, 5, 6, 7, 8, 9] (by kernel_rfl) ?_; conv => whnf) | (refine (_root_.id : AW _ _ _ (.region 32 _ true) _ _ → _) ?_; refine AW.draw (id := 32) tab_ok mixed [0, 1, 2, 3, 4, 5, 6, 7, 8, 9] (by kernel_rfl) ?_; conv => whnf) | ((first | refine AW.region tab_ok ?_ | refine AW.cond ?_ | refine AW.skip ?_ | refine AW.ret ?_ | refine AW.exit ?_); conv => whnf) | ((first | refine (dx _ (by first | omega | (simp only [List.length_append, List.length_cons, List.length_nil]; omega))).mono ?_ | refine (dy _ (by first | omega | (simp only [List.length_append, List.length_cons, List.length_nil]; omega))).mono ?_ | refine (dz _ (by first | omega | (simp only [List.length_append, List.length_cons, List.length_nil]; omega))).mono ?_ | refine (put_call _ [bw [105, 102]] (by first | omega | (simp only [List.length_append, List.length_cons, List.length_nil]; omega))).mono ?_ | refine (put_call _ [bw [116, 104, 101, 110]] (by first | omega | (simp only [List.length_append, List.length_cons, List.length_nil]; omega))).mono ?_ | refine (put_call _ [bw [101, 108, 115, 101]] (by first | omega | (simp only [List.length_append, List.length_cons, List.length_nil]; omega))).mono ?_); rintro _ _ ⟨rfl, rfl⟩; conv => whnf) | ((first | refine And.intro (@rfl Val _) ?_ | refine And.intro (by decide) ?_ | refine cs (fun _ => ?_) (fun _ => ?_)) <;> conv => whnf)
  all_goals first | exact ⟨rfl, rfl⟩ | (refine ⟨rfl, ?_⟩; simp only [List.append_assoc]; rfl)
set_option maxRecDepth 10000 in
theorem wterm_8 (name arg : ByteArray) (num : Int) (tk : Int) (tks : List Ty) (uk : Int) (uks : List Ty) (label place : Int) (ks : List Tm) (h : WordsC 110 (Tm.node 8 name arg num tk tks uk uks label place ks)) : WordsC 56 (Tm.node 8 name arg num tk tks uk uks label place ks) := by
  intro ws hb
  have d := h ws hb
  generalize tmW (Tm.node 8 name arg num tk tks uk uks label place ks) = s at *
  unfold wObj at d ⊢
  refine ACall.body tab_ok (ρ := 0) (N := 165) Tryz.func56 rfl rfl rfl rfl rfl ?_
  repeat' first | refine AW.seq ?_ | refine AW.block ?_ | (refine (_root_.id : AW _ _ _ (.region 3 _ true) _ _ → _) ?_; refine AW.draw (id := 3) tab_ok mixed [0, 1, 2, 3, 4, 5, 6, 7, 8, 9] (by kernel_rfl) ?_; conv => whnf) | (refine (_root_.id : AW _ _ _ (.region 10 _ true) _ _ → _) ?_; refine AW.draw (id := 10) tab_ok mixed [0, 1, 2, 3, 4, 5, 6, 7, 8, 9, 10, 11] (by kernel_rfl) ?_; conv => whnf) | (refine (_root_.id : AW _ _ _ (.region 11 _ true) _ _ → _) ?_; refine AW.draw (id := 11) tab_ok mixed [0, 1, 2, 3, 4, 5, 6, 7, 8, 9, 10] (by kernel_rfl) ?_; conv => whnf) | ((first | refine AW.region tab_ok ?_ | refine AW.cond ?_ | refine AW.skip ?_ | refine AW.ret ?_ | refine AW.exit ?_); conv => whnf) | (refine (d).mono ?_; rintro _ _ ⟨rfl, rfl⟩; conv => whnf) | ((first | refine And.intro (@rfl Val _) ?_ | refine And.intro (by decide) ?_ | refine cs (fun _ => ?_) (fun _ => ?_)) <;> conv => whnf)
  all_goals first | exact ⟨rfl, rfl⟩
set_option maxRecDepth 10000 in
set_option maxHeartbeats 2000000 in
theorem wbinder_14 (name arg : ByteArray) (num : Int) (tk : Int) (tks : List Ty) (uk : Int) (uks : List Ty) (label place : Int) (x y z : Tm) (ht : tmright (Tm.node 14 name arg num tk tks uk uks label place [x, y, z]) = true) (cx : AtC x) (cy : AtC y) (cz : AtC z) : WordsC 110 (Tm.node 14 name arg num tk tks uk uks label place [x, y, z]) := by
  intro ws hb
  have hW : tmW (Tm.node 14 name arg num tk tks uk uks label place [x, y, z]) = [bw [99, 97, 115, 101]] ++ tmA (-1) x ++ [bw [111, 102], name, bw [46]] ++ tmA (-1) y ++ [bw [124], arg, bw [46]] ++ tmA (-1) z := rfl
  rw [hW] at hb ⊢
  clear hW
  simp only [List.length_append, List.length_cons, List.length_nil] at hb
  have dx := cx (-1)
  generalize tmA (-1) x = sx at hb dx ⊢
  have dy := cy (-1)
  generalize tmA (-1) y = sy at hb dy ⊢
  have dz := cz (-1)
  generalize tmA (-1) z = sz at hb dz ⊢
  simp only [AtC, wObj] at hb dx dy dz
  unfold wObj
  refine ACall.body tab_ok (ρ := 0) (N := 220) Tryz.func110 rfl rfl rfl rfl rfl ?_
  repeat' first | ((refine And.intro (⟨by decide, by first | decide | (simp [Tm.rows]; done) | (simp [Tm.rows]; decide)⟩ : _ ∧ _) ?_; conv => whnf)) | ((intro row hrow; obtain rfl := Option.some.inj hrow; conv => whnf)) | refine AW.seq ?_ | refine AW.block ?_ | (refine (_root_.id : AW _ _ _ (.region 2 _ true) _ _ → _) ?_; refine AW.draw (id := 2) tab_ok mixed [0, 1, 2, 3, 4, 5, 6, 7, 8, 9] (by kernel_rfl) ?_; conv => whnf) | (refine (_root_.id : AW _ _ _ (.region 7 _ true) _ _ → _) ?_; refine AW.draw (id := 7) tab_ok mixed [0, 1, 2, 3, 4, 5, 6, 7, 8, 9, 10, 11, 12, 13] (by kernel_rfl) ?_; conv => whnf) | (refine (_root_.id : AW _ _ _ (.region 14 _ true) _ _ → _) ?_; refine AW.draw (id := 14) tab_ok mixed [0, 1, 2, 3, 4, 5, 6, 7, 8, 9] (by kernel_rfl) ?_; conv => whnf) | (refine (_root_.id : AW _ _ _ (.region 30 _ true) _ _ → _) ?_; refine AW.draw (id := 30) tab_ok mixed [0, 1, 2, 3, 4, 5, 6, 7, 8, 9] (by kernel_rfl) ?_; conv => whnf) | (refine (_root_.id : AW _ _ _ (.region 32 _ true) _ _ → _) ?_; refine AW.draw (id := 32) tab_ok mixed [0, 1, 2, 3, 4, 5, 6, 7, 8, 9] (by kernel_rfl) ?_; conv => whnf) | ((first | refine AW.region tab_ok ?_ | refine AW.cond ?_ | refine AW.skip ?_ | refine AW.ret ?_ | refine AW.exit ?_); conv => whnf) | ((first | refine (dx _ (by first | omega | (simp only [List.length_append, List.length_cons, List.length_nil]; omega))).mono ?_ | refine (dy _ (by first | omega | (simp only [List.length_append, List.length_cons, List.length_nil]; omega))).mono ?_ | refine (dz _ (by first | omega | (simp only [List.length_append, List.length_cons, List.length_nil]; omega))).mono ?_ | refine (put_call _ [bw [99, 97, 115, 101]] (by first | omega | (simp only [List.length_append, List.length_cons, List.length_nil]; omega))).mono ?_ | refine (put_call _ [bw [111, 102], name, bw [46]] (by first | omega | (simp only [List.length_append, List.length_cons, List.length_nil]; omega))).mono ?_ | refine (put_call _ [bw [124], arg, bw [46]] (by first | omega | (simp only [List.length_append, List.length_cons, List.length_nil]; omega))).mono ?_); rintro _ _ ⟨rfl, rfl⟩; conv => whnf) | ((first | refine And.intro (@rfl Val _) ?_ | refine And.intro (by decide) ?_ | refine cs (fun _ => ?_) (fun _ => ?_)) <;> conv => whnf)
  all_goals first | exact ⟨rfl, rfl⟩ | (refine ⟨rfl, ?_⟩; simp only [List.append_assoc]; rfl)
set_option maxRecDepth 10000 in
theorem wterm_14 (name arg : ByteArray) (num : Int) (tk : Int) (tks : List Ty) (uk : Int) (uks : List Ty) (label place : Int) (ks : List Tm) (h : WordsC 110 (Tm.node 14 name arg num tk tks uk uks label place ks)) : WordsC 56 (Tm.node 14 name arg num tk tks uk uks label place ks) := by
  intro ws hb
  have d := h ws hb
  generalize tmW (Tm.node 14 name arg num tk tks uk uks label place ks) = s at *
  unfold wObj at d ⊢
  refine ACall.body tab_ok (ρ := 0) (N := 165) Tryz.func56 rfl rfl rfl rfl rfl ?_
  repeat' first | refine AW.seq ?_ | refine AW.block ?_ | (refine (_root_.id : AW _ _ _ (.region 3 _ true) _ _ → _) ?_; refine AW.draw (id := 3) tab_ok mixed [0, 1, 2, 3, 4, 5, 6, 7, 8, 9] (by kernel_rfl) ?_; conv => whnf) | (refine (_root_.id : AW _ _ _ (.region 10 _ true) _ _ → _) ?_; refine AW.draw (id := 10) tab_ok mixed [0, 1, 2, 3, 4, 5, 6, 7, 8, 9, 10, 11] (by kernel_rfl) ?_; conv => whnf) | (refine (_root_.id : AW _ _ _ (.region 11 _ true) _ _ → _) ?_; refine AW.draw (id := 11) tab_ok mixed [0, 1, 2, 3, 4, 5, 6, 7, 8, 9, 10] (by kernel_rfl) ?_; conv => whnf) | ((first | refine AW.region tab_ok ?_ | refine AW.cond ?_ | refine AW.skip ?_ | refine AW.ret ?_ | refine AW.exit ?_); conv => whnf) | (refine (d).mono ?_; rintro _ _ ⟨rfl, rfl⟩; conv => whnf) | ((first | refine And.intro (@rfl Val _) ?_ | refine And.intro (by decide) ?_ | refine cs (fun _ => ?_) (fun _ => ?_)) <;> conv => whnf)
  all_goals first | exact ⟨rfl, rfl⟩
end Go.Proofs.YtmaokphbfjpodaaGreatDoor.E
