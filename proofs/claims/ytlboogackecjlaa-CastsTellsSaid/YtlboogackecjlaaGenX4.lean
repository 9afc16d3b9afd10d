/- Texts, merged: Cs4, Tm. No conditions. -/
import Derived.Test.YtlboogackecjlaaGenX3
import Derived.Test.YtlboogackecjlaaGenX2
/- Walks: below's ways, Pos, Neg. No conditions. -/
set_option linter.unusedVariables false
set_option linter.unusedSimpArgs false
namespace Go.Proofs.Ytlboogackecjlaa.E
open Go

set_option maxRecDepth 10000 in
theorem pos_leaf (k : Int) (hk : k = 1 ∨ k = 2) : ACall Try.prog 73 [wayV false, pairV (.node k []) (.node k [])] [] (fun o σ => o = .ret (.c (.d (.bool true))) ∧ σ = []) := by
  rcases hk with rfl | rfl
  all_goals
    refine ACall.body tab_ok (ρ := 0) (N := 106) Try.func73 rfl rfl rfl rfl rfl ?_
    repeat' first | refine AW.seq ?_ | refine AW.block ?_ | (refine (id : AW _ _ _ (.region 13 _ true) _ _ → _) ?_; refine AW.draw (id := 13) tab_ok mixed [0, 1, 3, 4, 5, 6, 7, 8, 9, 10, 11, 12, 13, 2, 14, 15, 16, 17, 18, 19, 20, 21, 22, 23, 24, 25, 26, 27, 28, 29, 30] (by kernel_rfl) ?_; conv => whnf) | (refine (id : AW _ _ _ (.region 14 _ true) _ _ → _) ?_; refine AW.draw (id := 14) tab_ok mixed [0, 1, 2, 3, 4, 5, 6, 7, 8, 9, 10, 11, 12, 13, 14, 15, 16, 17, 18, 19, 20, 21, 22, 23, 24, 25, 26, 27, 28] (by kernel_rfl) ?_; conv => whnf) | ((first | refine AW.region tab_ok ?_ | refine AW.cond ?_ | refine AW.skip ?_ | refine AW.ret ?_ | refine AW.exit ?_); conv => whnf) | ((first | refine And.intro (@rfl Val _) ?_ | refine And.intro (by decide) ?_ | refine cs (fun _ => ?_) (fun _ => ?_)) <;> conv => whnf)
    exact ⟨rfl, rfl⟩
set_option maxRecDepth 10000 in
theorem pos_fun (a0 a1 b0 b1 : Ty) (r0 r1 : Bool) (c0 : ACall Try.prog 73 [wayV true, pairV b0 a0] [] (fun o σ => o = .ret (.c (.d (.bool r0))) ∧ σ = [])) (c1 : ACall Try.prog 73 [wayV false, pairV a1 b1] [] (fun o σ => o = .ret (.c (.d (.bool r1))) ∧ σ = [])) :
    ACall Try.prog 73 [wayV false, pairV (.node 3 [a0, a1]) (.node 3 [b0, b1])] [] (fun o σ => o = .ret (.c (.d (.bool (r0 && r1)))) ∧ σ = []) := by
  obtain ⟨ka0, as0⟩ := a0
  obtain ⟨ka1, as1⟩ := a1
  obtain ⟨kb0, bs0⟩ := b0
  obtain ⟨kb1, bs1⟩ := b1
  refine ACall.body tab_ok (ρ := 0) (N := 106) Try.func73 rfl rfl rfl rfl rfl ?_
  repeat' first | ((refine ⟨by simp [Ty.rows], fun row hrow => ?_⟩; simp [Ty.rows] at hrow; subst hrow; conv => whnf)) | refine AW.seq ?_ | refine AW.block ?_ | (refine (id : AW _ _ _ (.region 13 _ true) _ _ → _) ?_; refine AW.draw (id := 13) tab_ok mixed [0, 1, 3, 4, 5, 6, 7, 8, 9, 10, 11, 12, 13, 2, 14, 15, 16, 17, 18, 19, 20, 21, 22, 23, 24, 25, 26, 27, 28, 29, 30] (by kernel_rfl) ?_; conv => whnf) | (refine (id : AW _ _ _ (.region 14 _ true) _ _ → _) ?_; refine AW.draw (id := 14) tab_ok mixed [0, 1, 2, 3, 4, 5, 6, 7, 8, 9, 10, 11, 12, 13, 14, 15, 16, 17, 18, 19, 20, 21, 22, 23, 24, 25, 26, 27, 28] (by kernel_rfl) ?_; conv => whnf) | ((first | refine AW.region tab_ok ?_ | refine AW.cond ?_ | refine AW.skip ?_ | refine AW.ret ?_ | refine AW.exit ?_); conv => whnf) | ((first | refine (neg_call).mono ?_ | refine (c0).mono ?_ | refine (c1).mono ?_); rintro _ _ ⟨rfl, rfl⟩; conv => whnf) | ((first | refine And.intro (@rfl Val _) ?_ | refine And.intro (by decide) ?_ | refine cs (fun _ => ?_) (fun _ => ?_)) <;> conv => whnf)
  all_goals exact ⟨outb (by simp_all), rfl⟩
set_option maxRecDepth 10000 in
theorem pos_two (k : Int) (hk : k = 4 ∨ k = 5) (a0 a1 b0 b1 : Ty) (r0 r1 : Bool) (c0 : ACall Try.prog 73 [wayV false, pairV a0 b0] [] (fun o σ => o = .ret (.c (.d (.bool r0))) ∧ σ = [])) (c1 : ACall Try.prog 73 [wayV false, pairV a1 b1] [] (fun o σ => o = .ret (.c (.d (.bool r1))) ∧ σ = [])) :
    ACall Try.prog 73 [wayV false, pairV (.node k [a0, a1]) (.node k [b0, b1])] [] (fun o σ => o = .ret (.c (.d (.bool (r0 && r1)))) ∧ σ = []) := by
  obtain ⟨ka0, as0⟩ := a0
  obtain ⟨ka1, as1⟩ := a1
  obtain ⟨kb0, bs0⟩ := b0
  obtain ⟨kb1, bs1⟩ := b1
  rcases hk with rfl | rfl
  all_goals
    refine ACall.body tab_ok (ρ := 0) (N := 106) Try.func73 rfl rfl rfl rfl rfl ?_
    repeat' first | ((refine ⟨by simp [Ty.rows], fun row hrow => ?_⟩; simp [Ty.rows] at hrow; subst hrow; conv => whnf)) | refine AW.seq ?_ | refine AW.block ?_ | (refine (id : AW _ _ _ (.region 13 _ true) _ _ → _) ?_; refine AW.draw (id := 13) tab_ok mixed [0, 1, 3, 4, 5, 6, 7, 8, 9, 10, 11, 12, 13, 2, 14, 15, 16, 17, 18, 19, 20, 21, 22, 23, 24, 25, 26, 27, 28, 29, 30] (by kernel_rfl) ?_; conv => whnf) | (refine (id : AW _ _ _ (.region 14 _ true) _ _ → _) ?_; refine AW.draw (id := 14) tab_ok mixed [0, 1, 2, 3, 4, 5, 6, 7, 8, 9, 10, 11, 12, 13, 14, 15, 16, 17, 18, 19, 20, 21, 22, 23, 24, 25, 26, 27, 28] (by kernel_rfl) ?_; conv => whnf) | ((first | refine AW.region tab_ok ?_ | refine AW.cond ?_ | refine AW.skip ?_ | refine AW.ret ?_ | refine AW.exit ?_); conv => whnf) | ((first | refine (c0).mono ?_ | refine (c1).mono ?_); rintro _ _ ⟨rfl, rfl⟩; conv => whnf) | ((first | refine And.intro (@rfl Val _) ?_ | refine And.intro (by decide) ?_ | refine cs (fun _ => ?_) (fun _ => ?_)) <;> conv => whnf)
    all_goals exact ⟨outb (by simp_all), rfl⟩
set_option maxRecDepth 10000 in
theorem neg_leaf (k : Int) (hk : k = 1 ∨ k = 2) : ACall Try.prog 73 [wayV true, pairV (.node k []) (.node k [])] [] (fun o σ => o = .ret (.c (.d (.bool true))) ∧ σ = []) := by
  rcases hk with rfl | rfl
  all_goals
    refine ACall.body tab_ok (ρ := 0) (N := 106) Try.func73 rfl rfl rfl rfl rfl ?_
    repeat' first | refine AW.seq ?_ | refine AW.block ?_ | (refine (id : AW _ _ _ (.region 13 _ true) _ _ → _) ?_; refine AW.draw (id := 13) tab_ok mixed [0, 1, 3, 4, 5, 6, 7, 8, 9, 10, 11, 12, 13, 2, 14, 15, 16, 17, 18, 19, 20, 21, 22, 23, 24, 25, 26, 27, 28, 29, 30] (by kernel_rfl) ?_; conv => whnf) | (refine (id : AW _ _ _ (.region 14 _ true) _ _ → _) ?_; refine AW.draw (id := 14) tab_ok mixed [0, 1, 2, 3, 4, 5, 6, 7, 8, 9, 10, 11, 12, 13, 14, 15, 16, 17, 18, 19, 20, 21, 22, 23, 24, 25, 26, 27, 28] (by kernel_rfl) ?_; conv => whnf) | ((first | refine AW.region tab_ok ?_ | refine AW.cond ?_ | refine AW.skip ?_ | refine AW.ret ?_ | refine AW.exit ?_); conv => whnf) | ((first | refine And.intro (@rfl Val _) ?_ | refine And.intro (by decide) ?_ | refine cs (fun _ => ?_) (fun _ => ?_)) <;> conv => whnf)
    exact ⟨rfl, rfl⟩
set_option maxRecDepth 10000 in
theorem neg_fun (a0 a1 b0 b1 : Ty) (r0 r1 : Bool) (c0 : ACall Try.prog 73 [wayV false, pairV b0 a0] [] (fun o σ => o = .ret (.c (.d (.bool r0))) ∧ σ = [])) (c1 : ACall Try.prog 73 [wayV true, pairV a1 b1] [] (fun o σ => o = .ret (.c (.d (.bool r1))) ∧ σ = [])) :
    ACall Try.prog 73 [wayV true, pairV (.node 3 [a0, a1]) (.node 3 [b0, b1])] [] (fun o σ => o = .ret (.c (.d (.bool (r0 && r1)))) ∧ σ = []) := by
  obtain ⟨ka0, as0⟩ := a0
  obtain ⟨ka1, as1⟩ := a1
  obtain ⟨kb0, bs0⟩ := b0
  obtain ⟨kb1, bs1⟩ := b1
  refine ACall.body tab_ok (ρ := 0) (N := 106) Try.func73 rfl rfl rfl rfl rfl ?_
  repeat' first | ((refine ⟨by simp [Ty.rows], fun row hrow => ?_⟩; simp [Ty.rows] at hrow; subst hrow; conv => whnf)) | refine AW.seq ?_ | refine AW.block ?_ | (refine (id : AW _ _ _ (.region 13 _ true) _ _ → _) ?_; refine AW.draw (id := 13) tab_ok mixed [0, 1, 3, 4, 5, 6, 7, 8, 9, 10, 11, 12, 13, 2, 14, 15, 16, 17, 18, 19, 20, 21, 22, 23, 24, 25, 26, 27, 28, 29, 30] (by kernel_rfl) ?_; conv => whnf) | (refine (id : AW _ _ _ (.region 14 _ true) _ _ → _) ?_; refine AW.draw (id := 14) tab_ok mixed [0, 1, 2, 3, 4, 5, 6, 7, 8, 9, 10, 11, 12, 13, 14, 15, 16, 17, 18, 19, 20, 21, 22, 23, 24, 25, 26, 27, 28] (by kernel_rfl) ?_; conv => whnf) | ((first | refine AW.region tab_ok ?_ | refine AW.cond ?_ | refine AW.skip ?_ | refine AW.ret ?_ | refine AW.exit ?_); conv => whnf) | ((first | refine (pos_call).mono ?_ | refine (c0).mono ?_ | refine (c1).mono ?_); rintro _ _ ⟨rfl, rfl⟩; conv => whnf) | ((first | refine And.intro (@rfl Val _) ?_ | refine And.intro (by decide) ?_ | refine cs (fun _ => ?_) (fun _ => ?_)) <;> conv => whnf)
  all_goals exact ⟨outb (by simp_all), rfl⟩
set_option maxRecDepth 10000 in
theorem neg_two (k : Int) (hk : k = 4 ∨ k = 5) (a0 a1 b0 b1 : Ty) (r0 r1 : Bool) (c0 : ACall Try.prog 73 [wayV true, pairV a0 b0] [] (fun o σ => o = .ret (.c (.d (.bool r0))) ∧ σ = [])) (c1 : ACall Try.prog 73 [wayV true, pairV a1 b1] [] (fun o σ => o = .ret (.c (.d (.bool r1))) ∧ σ = [])) :
    ACall Try.prog 73 [wayV true, pairV (.node k [a0, a1]) (.node k [b0, b1])] [] (fun o σ => o = .ret (.c (.d (.bool (r0 && r1)))) ∧ σ = []) := by
  obtain ⟨ka0, as0⟩ := a0
  obtain ⟨ka1, as1⟩ := a1
  obtain ⟨kb0, bs0⟩ := b0
  obtain ⟨kb1, bs1⟩ := b1
  rcases hk with rfl | rfl
  all_goals
    refine ACall.body tab_ok (ρ := 0) (N := 106) Try.func73 rfl rfl rfl rfl rfl ?_
    repeat' first | ((refine ⟨by simp [Ty.rows], fun row hrow => ?_⟩; simp [Ty.rows] at hrow; subst hrow; conv => whnf)) | refine AW.seq ?_ | refine AW.block ?_ | (refine (id : AW _ _ _ (.region 13 _ true) _ _ → _) ?_; refine AW.draw (id := 13) tab_ok mixed [0, 1, 3, 4, 5, 6, 7, 8, 9, 10, 11, 12, 13, 2, 14, 15, 16, 17, 18, 19, 20, 21, 22, 23, 24, 25, 26, 27, 28, 29, 30] (by kernel_rfl) ?_; conv => whnf) | (refine (id : AW _ _ _ (.region 14 _ true) _ _ → _) ?_; refine AW.draw (id := 14) tab_ok mixed [0, 1, 2, 3, 4, 5, 6, 7, 8, 9, 10, 11, 12, 13, 14, 15, 16, 17, 18, 19, 20, 21, 22, 23, 24, 25, 26, 27, 28] (by kernel_rfl) ?_; conv => whnf) | ((first | refine AW.region tab_ok ?_ | refine AW.cond ?_ | refine AW.skip ?_ | refine AW.ret ?_ | refine AW.exit ?_); conv => whnf) | ((first | refine (c0).mono ?_ | refine (c1).mono ?_); rintro _ _ ⟨rfl, rfl⟩; conv => whnf) | ((first | refine And.intro (@rfl Val _) ?_ | refine And.intro (by decide) ?_ | refine cs (fun _ => ?_) (fun _ => ?_)) <;> conv => whnf)
    all_goals exact ⟨outb (by simp_all), rfl⟩
set_option maxRecDepth 10000 in
theorem neg1_call (a b : Ty) (h : tcheck a = 0) (hk : a ≠ .node 0 []) (r : Bool) (c : ACall Try.prog 73 [wayV true, pairV a (groundF a)] [] (fun o σ => o = .ret (.c (.d (.bool r))) ∧ σ = [])) :
    ACall Try.prog 99 [pairV a b, wayV true] [] (fun o σ => o = .ret (.c (.d (.bool r))) ∧ σ = []) := by
  have c1 := ground_call a b h hk
  obtain ⟨k, ks⟩ := a
  obtain ⟨k', ks'⟩ := b
  refine ACall.body tab_ok (ρ := 0) (N := 9) Try.func99 rfl rfl rfl rfl rfl ?_
  repeat' first | refine AW.seq ?_ | refine AW.block ?_ | (refine (id : AW _ _ _ (.region 1 _ true) _ _ → _) ?_; refine AW.draw (id := 1) tab_ok mixed [0, 1, 2, 3, 4] (by kernel_rfl) ?_; conv => whnf) | ((first | refine AW.region tab_ok ?_ | refine AW.cond ?_ | refine AW.skip ?_ | refine AW.ret ?_ | refine AW.exit ?_); conv => whnf) | ((first | refine (c1).mono ?_ | refine (c).mono ?_); rintro _ _ ⟨rfl, rfl⟩; conv => whnf) | ((first | refine And.intro (@rfl Val _) ?_ | refine And.intro (by decide) ?_ | refine cs (fun _ => ?_) (fun _ => ?_)) <;> conv => whnf)
  exact ⟨rfl, rfl⟩
def Q : Ty := .node 0 []
set_option maxRecDepth 10000 in
theorem hold_zz (w : Bool) : ACall Try.prog 73 [wayV w, pairV (.node 0 []) (.node 0 [])] [] (fun o σ => o = .ret (.c (.d (.bool true))) ∧ σ = []) := by
  cases w
  all_goals
    refine ACall.body tab_ok (ρ := 0) (N := 106) Try.func73 rfl rfl rfl rfl rfl ?_
    repeat' first | refine AW.seq ?_ | refine AW.block ?_ | (refine (id : AW _ _ _ (.region 13 _ true) _ _ → _) ?_; refine AW.draw (id := 13) tab_ok mixed [0, 1, 3, 4, 5, 6, 7, 8, 9, 10, 11, 12, 13, 2, 14, 15, 16, 17, 18, 19, 20, 21, 22, 23, 24, 25, 26, 27, 28, 29, 30] (by kernel_rfl) ?_; conv => whnf) | (refine (id : AW _ _ _ (.region 14 _ true) _ _ → _) ?_; refine AW.draw (id := 14) tab_ok mixed [0, 1, 2, 3, 4, 5, 6, 7, 8, 9, 10, 11, 12, 13, 14, 15, 16, 17, 18, 19, 20, 21, 22, 23, 24, 25, 26, 27, 28] (by kernel_rfl) ?_; conv => whnf) | ((first | refine AW.region tab_ok ?_ | refine AW.cond ?_ | refine AW.skip ?_ | refine AW.ret ?_ | refine AW.exit ?_); conv => whnf) | ((first | refine And.intro (@rfl Val _) ?_ | refine And.intro (by decide) ?_ | refine cs (fun _ => ?_) (fun _ => ?_)) <;> conv => whnf)
    exact ⟨rfl, rfl⟩
set_option maxRecDepth 10000 in
theorem hold_zk (w : Bool) (k' : Int) (ks' : List Ty) (hk : k' ≠ 0) : ACall Try.prog 73 [wayV w, pairV (.node 0 []) (.node k' ks')] [] (fun o σ => o = .ret (.c (.d (.bool w))) ∧ σ = []) := by
  cases w
  all_goals
    refine ACall.body tab_ok (ρ := 0) (N := 106) Try.func73 rfl rfl rfl rfl rfl ?_
    repeat' first | refine AW.seq ?_ | refine AW.block ?_ | (refine (id : AW _ _ _ (.region 13 _ true) _ _ → _) ?_; refine AW.draw (id := 13) tab_ok mixed [0, 1, 3, 4, 5, 6, 7, 8, 9, 10, 11, 12, 13, 2, 14, 15, 16, 17, 18, 19, 20, 21, 22, 23, 24, 25, 26, 27, 28, 29, 30] (by kernel_rfl) ?_; conv => whnf) | (refine (id : AW _ _ _ (.region 14 _ true) _ _ → _) ?_; refine AW.draw (id := 14) tab_ok mixed [0, 1, 2, 3, 4, 5, 6, 7, 8, 9, 10, 11, 12, 13, 14, 15, 16, 17, 18, 19, 20, 21, 22, 23, 24, 25, 26, 27, 28] (by kernel_rfl) ?_; conv => whnf) | ((first | refine AW.region tab_ok ?_ | refine AW.cond ?_ | refine AW.skip ?_ | refine AW.ret ?_ | refine AW.exit ?_); conv => whnf) | ((first | refine And.intro (@rfl Val _) ?_ | refine And.intro (by decide) ?_ | refine cs (fun _ => ?_) (fun _ => ?_)) <;> conv => whnf)
    all_goals first | exact ⟨rfl, rfl⟩ | (exfalso; simp_all [intsEq]; done) | trace_state
set_option maxRecDepth 10000 in
theorem pos_any (a : Ty) (ha : tcheck a = 0) (hk : a ≠ .node 0 []) : ACall Try.prog 73 [wayV false, pairV a (.node 0 [])] [] (fun o σ => o = .ret (.c (.d (.bool true))) ∧ σ = []) := by
  have hr := tcheck_right ha
  have c1 := pos1_call a (.node 0 [])
  obtain ⟨k, ks⟩ := a
  have hk0 : k ≠ 0 := fun e => by
    subst e
    exact hk (by rw [right_zero hr])
  clear ha hr hk
  refine ACall.body tab_ok (ρ := 0) (N := 106) Try.func73 rfl rfl rfl rfl rfl ?_
  repeat' first | refine AW.seq ?_ | refine AW.block ?_ | (refine (id : AW _ _ _ (.region 13 _ true) _ _ → _) ?_; refine AW.draw (id := 13) tab_ok mixed [0, 1, 3, 4, 5, 6, 7, 8, 9, 10, 11, 12, 13, 2, 14, 15, 16, 17, 18, 19, 20, 21, 22, 23, 24, 25, 26, 27, 28, 29, 30] (by kernel_rfl) ?_; conv => whnf) | (refine (id : AW _ _ _ (.region 14 _ true) _ _ → _) ?_; refine AW.draw (id := 14) tab_ok mixed [0, 1, 2, 3, 4, 5, 6, 7, 8, 9, 10, 11, 12, 13, 14, 15, 16, 17, 18, 19, 20, 21, 22, 23, 24, 25, 26, 27, 28] (by kernel_rfl) ?_; conv => whnf) | ((first | refine AW.region tab_ok ?_ | refine AW.cond ?_ | refine AW.skip ?_ | refine AW.ret ?_ | refine AW.exit ?_); conv => whnf) | (refine (c1).mono ?_; rintro _ _ ⟨rfl, rfl⟩; conv => whnf) | ((first | refine And.intro (@rfl Val _) ?_ | refine And.intro (by decide) ?_ | refine cs (fun _ => ?_) (fun _ => ?_)) <;> conv => whnf)
  all_goals first | exact ⟨rfl, rfl⟩ | (clear c1; exfalso; simp_all [intsEq]; done) | trace_state
set_option maxRecDepth 10000 in
theorem neg_any (a : Ty) (ha : tcheck a = 0) (hk : a ≠ .node 0 []) (r : Bool) (c : ACall Try.prog 73 [wayV true, pairV a (groundF a)] [] (fun o σ => o = .ret (.c (.d (.bool r))) ∧ σ = [])) :
    ACall Try.prog 73 [wayV true, pairV a (.node 0 [])] [] (fun o σ => o = .ret (.c (.d (.bool r))) ∧ σ = []) := by
  have hr := tcheck_right ha
  have c1 := neg1_call a (.node 0 []) ha hk r c
  obtain ⟨k, ks⟩ := a
  have hk0 : k ≠ 0 := fun e => by
    subst e
    exact hk (by rw [right_zero hr])
  clear ha hr hk c
  refine ACall.body tab_ok (ρ := 0) (N := 106) Try.func73 rfl rfl rfl rfl rfl ?_
  repeat' first | refine AW.seq ?_ | refine AW.block ?_ | (refine (id : AW _ _ _ (.region 13 _ true) _ _ → _) ?_; refine AW.draw (id := 13) tab_ok mixed [0, 1, 3, 4, 5, 6, 7, 8, 9, 10, 11, 12, 13, 2, 14, 15, 16, 17, 18, 19, 20, 21, 22, 23, 24, 25, 26, 27, 28, 29, 30] (by kernel_rfl) ?_; conv => whnf) | (refine (id : AW _ _ _ (.region 14 _ true) _ _ → _) ?_; refine AW.draw (id := 14) tab_ok mixed [0, 1, 2, 3, 4, 5, 6, 7, 8, 9, 10, 11, 12, 13, 14, 15, 16, 17, 18, 19, 20, 21, 22, 23, 24, 25, 26, 27, 28] (by kernel_rfl) ?_; conv => whnf) | ((first | refine AW.region tab_ok ?_ | refine AW.cond ?_ | refine AW.skip ?_ | refine AW.ret ?_ | refine AW.exit ?_); conv => whnf) | (refine (c1).mono ?_; rintro _ _ ⟨rfl, rfl⟩; conv => whnf) | ((first | refine And.intro (@rfl Val _) ?_ | refine And.intro (by decide) ?_ | refine cs (fun _ => ?_) (fun _ => ?_)) <;> conv => whnf)
  all_goals first | exact ⟨rfl, rfl⟩ | (clear c1; exfalso; simp_all [intsEq]; done) | trace_state
set_option maxRecDepth 10000 in
theorem hold_unlike (w : Bool) (k k' : Int) (ks ks' : List Ty) (h1 : k ≠ 0) (h2 : k' ≠ 0) (h3 : k ≠ k') : ACall Try.prog 73 [wayV w, pairV (.node k ks) (.node k' ks')] [] (fun o σ => o = .ret (.c (.d (.bool false))) ∧ σ = []) := by
  cases w
  all_goals
    refine ACall.body tab_ok (ρ := 0) (N := 106) Try.func73 rfl rfl rfl rfl rfl ?_
    repeat' first | refine AW.seq ?_ | refine AW.block ?_ | (refine (id : AW _ _ _ (.region 13 _ true) _ _ → _) ?_; refine AW.draw (id := 13) tab_ok mixed [0, 1, 3, 4, 5, 6, 7, 8, 9, 10, 11, 12, 13, 2, 14, 15, 16, 17, 18, 19, 20, 21, 22, 23, 24, 25, 26, 27, 28, 29, 30] (by kernel_rfl) ?_; conv => whnf) | (refine (id : AW _ _ _ (.region 14 _ true) _ _ → _) ?_; refine AW.draw (id := 14) tab_ok mixed [0, 1, 2, 3, 4, 5, 6, 7, 8, 9, 10, 11, 12, 13, 14, 15, 16, 17, 18, 19, 20, 21, 22, 23, 24, 25, 26, 27, 28] (by kernel_rfl) ?_; conv => whnf) | ((first | refine AW.region tab_ok ?_ | refine AW.cond ?_ | refine AW.skip ?_ | refine AW.ret ?_ | refine AW.exit ?_); conv => whnf) | ((first | refine And.intro (@rfl Val _) ?_ | refine And.intro (by decide) ?_ | refine cs (fun _ => ?_) (fun _ => ?_)) <;> conv => whnf)
    all_goals first | exact ⟨rfl, rfl⟩ | (exfalso; simp_all [intsEq]; done) | trace_state
theorem tcheck_zero : tcheck (.node 0 []) = 0 := by decide +kernel
theorem hold_call : ∀ (n : Nat) (w : Bool) (a b : Ty), nodes a + nodes b ≤ n → tcheck a = 0 → tcheck b = 0 → ACall Try.prog 73 [wayV w, pairV a b] [] (fun o σ => o = .ret (.c (.d (.bool (holdF n w a b)))) ∧ σ = []) := by
  intro n
  induction n with
  | zero => intro w a b h; have := nodes_pos a; omega
  | succ n ih =>
  rintro w ⟨k, ks⟩ ⟨k', ks'⟩ hn ha hb
  have ra := tcheck_right ha
  have rb := tcheck_right hb
  by_cases h0 : k = 0
  · subst h0
    obtain rfl := right_zero ra
    by_cases h1 : k' = 0
    · subst h1
      obtain rfl := right_zero rb
      have := hold_zz w
      simpa [holdF] using this
    · have := hold_zk w k' ks' h1
      simpa [holdF, h1] using this
  · have ne : ∀ {ks : List Ty}, (Ty.node k ks) ≠ .node 0 [] := fun {ks} e => by cases e; exact h0 rfl
    by_cases h1 : k' = 0
    · subst h1
      obtain rfl := right_zero rb
      cases w with
      | false =>
        have := pos_any _ ha ne
        simpa [holdF, h0] using this
      | true =>
        rcases parts_two ra h0 with ⟨rfl, hk⟩ | ⟨a0, a1, rfl, hk⟩
        · have := neg_any _ ha ne true (neg_leaf k hk)
          simpa [holdF, h0] using this
        · have n0 := nodes_mem [a0, a1] a0 (by simp)
          have n1 := nodes_mem [a0, a1] a1 (by simp)
          simp only [nodes, nodesL] at hn n0 n1
          have k0 := tcheck_kid ha (t := a0) (by simp)
          have k1 := tcheck_kid ha (t := a1) (by simp)
          have z := tcheck_zero
          have zn : nodes (.node 0 []) = 1 := by simp [nodes, nodesL]
          rcases hk with rfl | hk
          · have := neg_any _ ha ne _ (neg_fun a0 a1 (.node 0 []) (.node 0 []) _ _ (ih false (.node 0 []) a0 (by omega) z k0) (ih true a1 (.node 0 []) (by omega) k1 z))
            simpa [holdF] using this
          · have := neg_any _ ha ne _ (neg_two k hk a0 a1 (.node 0 []) (.node 0 []) _ _ (ih true a0 (.node 0 []) (by omega) k0 z) (ih true a1 (.node 0 []) (by omega) k1 z))
            have h3 : k ≠ 3 := by omega
            simpa [holdF, h0, h3] using this
    · by_cases h2 : k = k'
      · subst h2
        have el := right_eq_len ra rb
        rcases parts_two ra h0 with ⟨rfl, hk⟩ | ⟨a0, a1, rfl, hk⟩
        · obtain rfl : ks' = [] := List.eq_nil_of_length_eq_zero (by simpa using el.symm)
          cases w with
          | false => simpa [holdF, h0] using pos_leaf k hk
          | true => simpa [holdF, h0] using neg_leaf k hk
        · obtain ⟨b0, b1, rfl⟩ : ∃ b0 b1, ks' = [b0, b1] := by
            match ks', el with
            | [b0, b1], _ => exact ⟨b0, b1, rfl⟩
          simp only [nodes, nodesL] at hn
          have k0 := tcheck_kid ha (t := a0) (by simp)
          have k1 := tcheck_kid ha (t := a1) (by simp)
          have l0 := tcheck_kid hb (t := b0) (by simp)
          have l1 := tcheck_kid hb (t := b1) (by simp)
          rcases hk with rfl | hk
          · cases w with
            | false =>
              have := pos_fun a0 a1 b0 b1 _ _ (ih true b0 a0 (by omega) l0 k0) (ih false a1 b1 (by omega) k1 l1)
              simpa [holdF] using this
            | true =>
              have := neg_fun a0 a1 b0 b1 _ _ (ih false b0 a0 (by omega) l0 k0) (ih true a1 b1 (by omega) k1 l1)
              simpa [holdF] using this
          · have h3 : k ≠ 3 := by omega
            cases w with
            | false =>
              have := pos_two k hk a0 a1 b0 b1 _ _ (ih false a0 b0 (by omega) k0 l0) (ih false a1 b1 (by omega) k1 l1)
              simpa [holdF, h0, h3] using this
            | true =>
              have := neg_two k hk a0 a1 b0 b1 _ _ (ih true a0 b0 (by omega) k0 l0) (ih true a1 b1 (by omega) k1 l1)
              simpa [holdF, h0, h3] using this
      · have := hold_unlike w k k' ks ks' h0 h1 h2
        have e : holdF (n + 1) w (.node k ks) (.node k' ks') = false := by simp [holdF, h0, h1, h2]
        rw [e]
        exact this
def belowS (w : Bool) (a b : Ty) : Bool := decide (tcheck a = 0) && decide (tcheck b = 0) && holdF (nodes a + nodes b) w a b
set_option maxRecDepth 10000 in
theorem asked_call (w : Bool) (a b : Ty) : ACall Try.prog 72 [.c (.fn 73 [] []), wayV w, a.val, b.val] [] (fun o σ => o = .ret (.c (.d (.bool (belowS w a b)))) ∧ σ = []) := by
  have c1 := check_call a
  have c2 := check_call b
  have c3 := fun h1 h2 => hold_call (nodes a + nodes b) w a b (Nat.le_refl _) h1 h2
  have e : belowS w a b = (decide (tcheck a = 0) && decide (tcheck b = 0) && holdF (nodes a + nodes b) w a b) := rfl
  rw [e]
  generalize tcheck a = ca at *
  generalize tcheck b = cb at *
  generalize holdF (nodes a + nodes b) w a b = hh at *
  clear e
  obtain ⟨k, ks⟩ := a
  obtain ⟨k', ks'⟩ := b
  refine ACall.body tab_ok (ρ := 0) (N := 25) Try.func72 rfl rfl rfl rfl rfl ?_
  repeat' first | refine AW.seq ?_ | refine AW.block ?_ | ((first | refine AW.region tab_ok ?_ | refine AW.cond ?_ | refine AW.skip ?_ | refine AW.ret ?_ | refine AW.exit ?_); conv => whnf) | ((first | refine (c1).mono ?_ | refine (c2).mono ?_); rintro _ _ ⟨rfl, rfl⟩; conv => whnf) | ((first | refine And.intro (@rfl Val _) ?_ | refine And.intro (by decide) ?_ | refine cs (fun _ => ?_) (fun _ => ?_)) <;> conv => whnf)
  · rename_i h1 h2
    have h1 : ca = 0 := by simpa using h1
    have h2 : cb = 0 := by simpa using h2
    refine (c3 h1 h2).mono ?_
    rintro _ _ ⟨rfl, rfl⟩
    conv => whnf
    repeat' first | refine AW.seq ?_ | refine AW.block ?_ | ((first | refine AW.region tab_ok ?_ | refine AW.cond ?_ | refine AW.skip ?_ | refine AW.ret ?_ | refine AW.exit ?_); conv => whnf) | ((first | refine And.intro (@rfl Val _) ?_ | refine And.intro (by decide) ?_ | refine cs (fun _ => ?_) (fun _ => ?_)) <;> conv => whnf)
    exact ⟨outb (by simp [h1, h2]), rfl⟩
  · rename_i h1 h2
    simp at h1 h2
    exact ⟨outb (by simp [h1, h2]), rfl⟩
  · rename_i h1
    simp at h1
    exact ⟨outb (by simp [h1]), rfl⟩
set_option maxRecDepth 10000 in
theorem Pos_call (a b : Ty) : ACall Try.prog 47 [a.val, b.val] [] (fun o σ => o = .ret (.c (.d (.bool (belowS false a b)))) ∧ σ = []) := by
  have c1 := asked_call false a b
  generalize belowS false a b = r at *
  obtain ⟨k, ks⟩ := a
  obtain ⟨k', ks'⟩ := b
  refine ACall.body tab_ok (ρ := 0) (N := 9) Try.func47 rfl rfl rfl rfl rfl ?_
  repeat' first | refine AW.seq ?_ | refine AW.block ?_ | (refine (id : AW _ _ _ (.region 1 _ true) _ _ → _) ?_; refine AW.draw (id := 1) tab_ok mixed [1, 2, 0, 3, 4] (by kernel_rfl) ?_; conv => whnf) | ((first | refine AW.region tab_ok ?_ | refine AW.cond ?_ | refine AW.skip ?_ | refine AW.ret ?_ | refine AW.exit ?_); conv => whnf) | ((first | refine (pos_call).mono ?_ | refine (c1).mono ?_); rintro _ _ ⟨rfl, rfl⟩; conv => whnf) | ((first | refine And.intro (@rfl Val _) ?_ | refine And.intro (by decide) ?_ | refine cs (fun _ => ?_) (fun _ => ?_)) <;> conv => whnf)
  exact ⟨rfl, rfl⟩
set_option maxRecDepth 10000 in
theorem Neg_call (a b : Ty) : ACall Try.prog 48 [a.val, b.val] [] (fun o σ => o = .ret (.c (.d (.bool (belowS true a b)))) ∧ σ = []) := by
  have c1 := asked_call true a b
  generalize belowS true a b = r at *
  obtain ⟨k, ks⟩ := a
  obtain ⟨k', ks'⟩ := b
  refine ACall.body tab_ok (ρ := 0) (N := 9) Try.func48 rfl rfl rfl rfl rfl ?_
  repeat' first | refine AW.seq ?_ | refine AW.block ?_ | (refine (id : AW _ _ _ (.region 1 _ true) _ _ → _) ?_; refine AW.draw (id := 1) tab_ok mixed [1, 2, 0, 3, 4] (by kernel_rfl) ?_; conv => whnf) | ((first | refine AW.region tab_ok ?_ | refine AW.cond ?_ | refine AW.skip ?_ | refine AW.ret ?_ | refine AW.exit ?_); conv => whnf) | ((first | refine (neg_call).mono ?_ | refine (c1).mono ?_); rintro _ _ ⟨rfl, rfl⟩; conv => whnf) | ((first | refine And.intro (@rfl Val _) ?_ | refine And.intro (by decide) ?_ | refine cs (fun _ => ?_) (fun _ => ?_)) <;> conv => whnf)
  exact ⟨rfl, rfl⟩
end Go.Proofs.Ytlboogackecjlaa.E

/- Terms as trees; what the program tells of a kind. No conditions. -/
set_option linter.unusedVariables false
set_option linter.unusedSimpArgs false
namespace Go.Proofs.Ytlboogackecjlaa.E
open Go

/-- k, name, arg, num, the types (kind, kids), label, place, kids. -/
inductive Tm where
  | node (k : Int) (name arg : ByteArray) (num tk : Int) (tks : List Ty) (uk : Int) (uks : List Ty) (label place : Int) (kids : List Tm)
mutual
def Tm.cells : Tm → List DV
  | .node k name arg num tk tks uk uks label place ks =>
    [.int .i8 k, .str name, .str arg, .int .i64 num, .int .i8 tk, .sl 0 2 (Ty.rows tks), .int .i8 uk, .sl 0 2 (Ty.rows uks), .int .i64 label, .int .i64 place, .sl 0 11 (Tm.rows ks)]
def Tm.rows : List Tm → List (List DV)
  | [] => []
  | t :: l => Tm.cells t :: Tm.rows l
end
/-- A term, as a value. -/
def Tm.val (t : Tm) : Val := .agg (t.cells.map .d)
def Tm.kids : Tm → List Tm
  | .node _ _ _ _ _ _ _ _ _ _ ks => ks
theorem trows_length : ∀ ks, (Tm.rows ks).length = ks.length
  | [] => rfl
  | _ :: l => by simp [Tm.rows, trows_length l]
theorem trows_get : ∀ (ks : List Tm) (i : Nat) row, (Tm.rows ks)[i]? = some row → ∃ t, ks[i]? = some t ∧ row = Tm.cells t
  | [], i, row, h => by simp [Tm.rows] at h
  | t :: l, 0, row, h => by simp [Tm.rows] at h; exact ⟨t, rfl, h.symm⟩
  | t :: l, i + 1, row, h => by simp only [Tm.rows, List.getElem?_cons_succ] at h ⊢; exact trows_get l i row h
theorem trows_map : ∀ ks : List Tm, Tm.rows ks = ks.map Tm.cells
  | [] => rfl
  | t :: l => by simp [Tm.rows, trows_map l]

/-! ### Kinds -/
def kidsK (k : Int) : Int :=
  if k = 0 ∨ k = 1 ∨ k = 2 ∨ k = 3 then 0 else if k = 4 ∨ k = 5 ∨ k = 10 ∨ k = 11 ∨ k = 12 ∨ k = 13 ∨ k = 16 ∨ k = 17 then 1
  else if k = 6 ∨ k = 7 ∨ k = 9 ∨ k = 15 then 2 else if k = 8 ∨ k = 14 then 3 else -1
def nameK (k : Int) : Bool := decide (k = 0 ∨ k = 4 ∨ k = 5 ∨ k = 7 ∨ k = 14)
def argK (k : Int) : Bool := decide (k = 5 ∨ k = 14)
def typeK (k : Int) : Bool := decide (k = 4 ∨ k = 5 ∨ k = 7 ∨ k = 12 ∨ k = 13 ∨ k = 16 ∨ k = 17)
def toK (k : Int) : Bool := decide (k = 5 ∨ k = 17)
def validK (k : Int) : Bool := decide (0 ≤ k ∧ k ≤ 17)
def shapeK (k : Int) : Val := .agg [.d (.int .i64 (if validK k = true then kidsK k else 0)), .d (.bool (nameK k)), .d (.bool (argK k)), .d (.bool (decide (k = 1))), .d (.bool (typeK k)), .d (.bool (toK k)), .d (.bool (decide (k = 17))), .d (.bool (decide (k = 15)))]
set_option maxRecDepth 10000 in
theorem of_call (k : Int) : ACall Try.prog 90 [.c (.d (.int .i8 k))] [] (fun o σ => o = .ret (.tup [shapeK k, .c (.d (.bool (validK k)))]) ∧ σ = []) := by
  refine ACall.body tab_ok (ρ := 0) (N := 50) Try.func90 rfl rfl rfl rfl rfl ?_
  repeat' first | refine AW.seq ?_ | refine AW.block ?_ | ((first | refine AW.region tab_ok ?_ | refine AW.cond ?_ | refine AW.skip ?_ | refine AW.ret ?_ | refine AW.exit ?_); conv => whnf) | ((first | refine And.intro (@rfl Val _) ?_ | refine And.intro (by decide) ?_ | refine cs (fun _ => ?_) (fun _ => ?_)) <;> conv => whnf)
  all_goals refine ⟨?_, rfl⟩
  all_goals first
    | (rename_i h; simp at h; subst h; rfl)
    | (simp at *
       have hv : validK k = false := by simp [validK]; omega
       have h1 : nameK k = false := by simp [nameK]; omega
       have h2 : argK k = false := by simp [argK]; omega
       have h3 : typeK k = false := by simp [typeK]; omega
       have h4 : toK k = false := by simp [toK]; omega
       have h5 : decide (k = 1) = false := by simp; omega
       have h6 : decide (k = 17) = false := by simp; omega
       have h7 : decide (k = 15) = false := by simp; omega
       simp only [shapeK, oneOf, hv, h1, h2, h3, h4, h5, h6, h7]
       rfl)
set_option maxRecDepth 10000 in
theorem rkids_call (k : Int) : ACall Try.prog 94 [.c (.d (.int .i8 k))] [] (fun o σ => o = .ret (.c (.d (.int .i64 (kidsK k)))) ∧ σ = []) := by
  refine ACall.body tab_ok (ρ := 0) (N := 26) Try.func94 rfl rfl rfl rfl rfl ?_
  repeat' first | refine AW.seq ?_ | refine AW.block ?_ | ((first | refine AW.region tab_ok ?_ | refine AW.cond ?_ | refine AW.skip ?_ | refine AW.ret ?_ | refine AW.exit ?_); conv => whnf) | ((first | refine And.intro (@rfl Val _) ?_ | refine And.intro (by decide) ?_ | refine cs (fun _ => ?_) (fun _ => ?_)) <;> conv => whnf)
  all_goals (refine ⟨?_, rfl⟩; simp_all [oneOf, kidsK])
set_option maxRecDepth 10000 in
theorem rhasName_call (k : Int) : ACall Try.prog 84 [.c (.d (.int .i8 k))] [] (fun o σ => o = .ret (.c (.d (.bool (nameK k || decide (k = 15))))) ∧ σ = []) := by
  refine ACall.body tab_ok (ρ := 0) (N := 25) Try.func84 rfl rfl rfl rfl rfl ?_
  repeat' first | refine AW.seq ?_ | refine AW.block ?_ | ((first | refine AW.region tab_ok ?_ | refine AW.cond ?_ | refine AW.skip ?_ | refine AW.ret ?_ | refine AW.exit ?_); conv => whnf) | ((first | refine And.intro (@rfl Val _) ?_ | refine And.intro (by decide) ?_ | refine cs (fun _ => ?_) (fun _ => ?_)) <;> conv => whnf)
  all_goals
    refine ⟨outb ?_, rfl⟩
    rw [Bool.eq_iff_iff]
    simp at *
    simp [nameK]
    omega
set_option maxRecDepth 10000 in
theorem rhasArg_call (k : Int) : ACall Try.prog 85 [.c (.d (.int .i8 k))] [] (fun o σ => o = .ret (.c (.d (.bool (argK k)))) ∧ σ = []) := by
  refine ACall.body tab_ok (ρ := 0) (N := 9) Try.func85 rfl rfl rfl rfl rfl ?_
  repeat' first | refine AW.seq ?_ | refine AW.block ?_ | ((first | refine AW.region tab_ok ?_ | refine AW.cond ?_ | refine AW.skip ?_ | refine AW.ret ?_ | refine AW.exit ?_); conv => whnf) | ((first | refine And.intro (@rfl Val _) ?_ | refine And.intro (by decide) ?_ | refine cs (fun _ => ?_) (fun _ => ?_)) <;> conv => whnf)
  all_goals
    refine ⟨outb ?_, rfl⟩
    rw [Bool.eq_iff_iff]
    simp at *
    simp [argK]
    omega
set_option maxRecDepth 10000 in
theorem rhasType_call (k : Int) : ACall Try.prog 59 [.c (.d (.int .i8 k))] [] (fun o σ => o = .ret (.c (.d (.bool (typeK k)))) ∧ σ = []) := by
  refine ACall.body tab_ok (ρ := 0) (N := 29) Try.func59 rfl rfl rfl rfl rfl ?_
  repeat' first | refine AW.seq ?_ | refine AW.block ?_ | ((first | refine AW.region tab_ok ?_ | refine AW.cond ?_ | refine AW.skip ?_ | refine AW.ret ?_ | refine AW.exit ?_); conv => whnf) | ((first | refine And.intro (@rfl Val _) ?_ | refine And.intro (by decide) ?_ | refine cs (fun _ => ?_) (fun _ => ?_)) <;> conv => whnf)
  all_goals
    refine ⟨outb ?_, rfl⟩
    rw [Bool.eq_iff_iff]
    simp at *
    simp [typeK]
    omega
set_option maxRecDepth 10000 in
theorem rhasTo_call (k : Int) : ACall Try.prog 61 [.c (.d (.int .i8 k))] [] (fun o σ => o = .ret (.c (.d (.bool (toK k)))) ∧ σ = []) := by
  refine ACall.body tab_ok (ρ := 0) (N := 9) Try.func61 rfl rfl rfl rfl rfl ?_
  repeat' first | refine AW.seq ?_ | refine AW.block ?_ | ((first | refine AW.region tab_ok ?_ | refine AW.cond ?_ | refine AW.skip ?_ | refine AW.ret ?_ | refine AW.exit ?_); conv => whnf) | ((first | refine And.intro (@rfl Val _) ?_ | refine And.intro (by decide) ?_ | refine cs (fun _ => ?_) (fun _ => ?_)) <;> conv => whnf)
  all_goals
    refine ⟨outb ?_, rfl⟩
    rw [Bool.eq_iff_iff]
    simp at *
    simp [toK]
    omega
end Go.Proofs.Ytlboogackecjlaa.E
