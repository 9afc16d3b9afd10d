/- Texts, merged: Pv2, Pv3, Pv4. No conditions. -/
import Derived.Test.YtlboogackecjlaaGreatGenX7
import Derived.Test.YtlboogackecjlaaGreatGenX5
import Derived.Test.YtlboogackecjlaaGreatGenX6
/- proof: types' parts, the rules. No conditions. -/
set_option linter.unusedVariables false
set_option linter.unusedSimpArgs false
namespace Go.Proofs.YtlboogackecjlaaGreat.E
open Go

theorem tcheck_parts' {t : Ty} (h : tcheck t = 0) : tright t = true := by
  unfold tcheck at h
  split at h
  · cases h
  · split at h
    · cases h
    · split at h
      · assumption
      · cases h
def unk : Ty := .node 0 []
def asL (q : Int) : Ty → Ty
  | .node k ks => if tcheck (.node k ks) = 0 ∧ k = q then ks.getD 0 unk else unk
def asR (q : Int) : Ty → Ty
  | .node k ks => if tcheck (.node k ks) = 0 ∧ k = q then ks.getD 1 unk else unk
def asB (q : Int) : Ty → Bool
  | .node k ks => decide (tcheck (.node k ks) = 0) && (decide (k = 0) || decide (k = q))
set_option maxRecDepth 10000 in
theorem As_call (q : Int) (hq : q = 3 ∨ q = 4 ∨ q = 5) (a : Ty) : ACall Tryz.prog 46 [.c (.d (.int .i8 q)), a.val] [] (fun o σ => o = .ret (.tup [(asL q a).val, (asR q a).val, .c (.d (.bool (asB q a)))]) ∧ σ = []) := by
  obtain ⟨k, ks⟩ := a
  have c1 := check_call (.node k ks)
  by_cases h : tcheck (.node k ks) = 0
  · rw [h] at c1
    by_cases h0 : k = 0
    · subst h0
      have e1 : asL q (.node 0 ks) = unk := by rcases hq with rfl | rfl | rfl <;> simp [asL]
      have e2 : asR q (.node 0 ks) = unk := by rcases hq with rfl | rfl | rfl <;> simp [asR]
      have e3 : asB q (.node 0 ks) = true := by simp [asB, h]
      rw [e1, e2, e3]
      rcases hq with rfl | rfl | rfl
      · skip
        refine ACall.body tab_ok (ρ := 0) (N := 40) Tryz.func46 rfl rfl rfl rfl rfl ?_
        repeat' first | refine AW.seq ?_ | refine AW.block ?_ | (refine (id : AW _ _ _ (.region 3 _ true) _ _ → _) ?_; refine AW.draw (id := 3) tab_ok mixed [0, 1, 2, 3, 4] (by kernel_rfl) ?_; conv => whnf) | (refine (id : AW _ _ _ (.region 5 _ true) _ _ → _) ?_; refine AW.draw (id := 5) tab_ok mixed [0, 1, 2, 3, 4] (by kernel_rfl) ?_; conv => whnf) | (refine (id : AW _ _ _ (.region 7 _ true) _ _ → _) ?_; refine AW.draw (id := 7) tab_ok mixed [0, 1, 2, 3, 4] (by kernel_rfl) ?_; conv => whnf) | (refine (id : AW _ _ _ (.region 8 _ true) _ _ → _) ?_; refine AW.draw (id := 8) tab_ok mixed [0, 1, 2, 3, 4, 5, 6, 7, 8, 9, 10] (by kernel_rfl) ?_; conv => whnf) | ((first | refine AW.region tab_ok ?_ | refine AW.cond ?_ | refine AW.skip ?_ | refine AW.ret ?_ | refine AW.exit ?_); conv => whnf) | (refine (c1).mono ?_; rintro _ _ ⟨rfl, rfl⟩; conv => whnf) | ((first | refine And.intro (@rfl Val _) ?_ | refine And.intro (by decide) ?_ | refine cs (fun _ => ?_) (fun _ => ?_)) <;> conv => whnf)
        all_goals first | exact ⟨rfl, rfl⟩ | (exfalso; simp_all)
      · skip
        refine ACall.body tab_ok (ρ := 0) (N := 40) Tryz.func46 rfl rfl rfl rfl rfl ?_
        repeat' first | refine AW.seq ?_ | refine AW.block ?_ | (refine (id : AW _ _ _ (.region 3 _ true) _ _ → _) ?_; refine AW.draw (id := 3) tab_ok mixed [0, 1, 2, 3, 4] (by kernel_rfl) ?_; conv => whnf) | (refine (id : AW _ _ _ (.region 5 _ true) _ _ → _) ?_; refine AW.draw (id := 5) tab_ok mixed [0, 1, 2, 3, 4] (by kernel_rfl) ?_; conv => whnf) | (refine (id : AW _ _ _ (.region 7 _ true) _ _ → _) ?_; refine AW.draw (id := 7) tab_ok mixed [0, 1, 2, 3, 4] (by kernel_rfl) ?_; conv => whnf) | (refine (id : AW _ _ _ (.region 8 _ true) _ _ → _) ?_; refine AW.draw (id := 8) tab_ok mixed [0, 1, 2, 3, 4, 5, 6, 7, 8, 9, 10] (by kernel_rfl) ?_; conv => whnf) | ((first | refine AW.region tab_ok ?_ | refine AW.cond ?_ | refine AW.skip ?_ | refine AW.ret ?_ | refine AW.exit ?_); conv => whnf) | (refine (c1).mono ?_; rintro _ _ ⟨rfl, rfl⟩; conv => whnf) | ((first | refine And.intro (@rfl Val _) ?_ | refine And.intro (by decide) ?_ | refine cs (fun _ => ?_) (fun _ => ?_)) <;> conv => whnf)
        all_goals first | exact ⟨rfl, rfl⟩ | (exfalso; simp_all)
      · skip
        refine ACall.body tab_ok (ρ := 0) (N := 40) Tryz.func46 rfl rfl rfl rfl rfl ?_
        repeat' first | refine AW.seq ?_ | refine AW.block ?_ | (refine (id : AW _ _ _ (.region 3 _ true) _ _ → _) ?_; refine AW.draw (id := 3) tab_ok mixed [0, 1, 2, 3, 4] (by kernel_rfl) ?_; conv => whnf) | (refine (id : AW _ _ _ (.region 5 _ true) _ _ → _) ?_; refine AW.draw (id := 5) tab_ok mixed [0, 1, 2, 3, 4] (by kernel_rfl) ?_; conv => whnf) | (refine (id : AW _ _ _ (.region 7 _ true) _ _ → _) ?_; refine AW.draw (id := 7) tab_ok mixed [0, 1, 2, 3, 4] (by kernel_rfl) ?_; conv => whnf) | (refine (id : AW _ _ _ (.region 8 _ true) _ _ → _) ?_; refine AW.draw (id := 8) tab_ok mixed [0, 1, 2, 3, 4, 5, 6, 7, 8, 9, 10] (by kernel_rfl) ?_; conv => whnf) | ((first | refine AW.region tab_ok ?_ | refine AW.cond ?_ | refine AW.skip ?_ | refine AW.ret ?_ | refine AW.exit ?_); conv => whnf) | (refine (c1).mono ?_; rintro _ _ ⟨rfl, rfl⟩; conv => whnf) | ((first | refine And.intro (@rfl Val _) ?_ | refine And.intro (by decide) ?_ | refine cs (fun _ => ?_) (fun _ => ?_)) <;> conv => whnf)
        all_goals first | exact ⟨rfl, rfl⟩ | (exfalso; simp_all)
    · by_cases h1 : k = q
      · subst h1
        obtain ⟨x, y, rfl⟩ : ∃ x y, ks = [x, y] := by
          have := tright_len (tcheck_parts' h)
          match ks, this with
          | [x, y], _ => exact ⟨x, y, rfl⟩
          | [], e => rcases hq with rfl | rfl | rfl <;> simp [parts] at e
          | [_], e => rcases hq with rfl | rfl | rfl <;> simp [parts] at e
          | _ :: _ :: _ :: _, e => rcases hq with rfl | rfl | rfl <;> (simp [parts] at e; omega)
        have e1 : asL k (.node k [x, y]) = x := by simp [asL, h]
        have e2 : asR k (.node k [x, y]) = y := by simp [asR, h]
        have e3 : asB k (.node k [x, y]) = true := by simp [asB, h]
        rw [e1, e2, e3]
        clear e1 e2 e3 h h0
        obtain ⟨kx, xs⟩ := x
        obtain ⟨ky, ys⟩ := y
        rcases hq with rfl | rfl | rfl
        · skip
          refine ACall.body tab_ok (ρ := 0) (N := 40) Tryz.func46 rfl rfl rfl rfl rfl ?_
          repeat' first | ((refine And.intro (⟨by decide, by simp [Ty.rows]⟩ : _ ∧ _) ?_; conv => whnf)) | ((intro row hrow; obtain rfl := Option.some.inj hrow; conv => whnf)) | refine AW.seq ?_ | refine AW.block ?_ | (refine (id : AW _ _ _ (.region 3 _ true) _ _ → _) ?_; refine AW.draw (id := 3) tab_ok mixed [0, 1, 2, 3, 4] (by kernel_rfl) ?_; conv => whnf) | (refine (id : AW _ _ _ (.region 5 _ true) _ _ → _) ?_; refine AW.draw (id := 5) tab_ok mixed [0, 1, 2, 3, 4] (by kernel_rfl) ?_; conv => whnf) | (refine (id : AW _ _ _ (.region 7 _ true) _ _ → _) ?_; refine AW.draw (id := 7) tab_ok mixed [0, 1, 2, 3, 4] (by kernel_rfl) ?_; conv => whnf) | (refine (id : AW _ _ _ (.region 8 _ true) _ _ → _) ?_; refine AW.draw (id := 8) tab_ok mixed [0, 1, 2, 3, 4, 5, 6, 7, 8, 9, 10] (by kernel_rfl) ?_; conv => whnf) | ((first | refine AW.region tab_ok ?_ | refine AW.cond ?_ | refine AW.skip ?_ | refine AW.ret ?_ | refine AW.exit ?_); conv => whnf) | (refine (c1).mono ?_; rintro _ _ ⟨rfl, rfl⟩; conv => whnf) | ((first | refine And.intro (@rfl Val _) ?_ | refine And.intro (by decide) ?_ | refine cs (fun _ => ?_) (fun _ => ?_)) <;> conv => whnf)
          all_goals first | exact ⟨rfl, rfl⟩ | (exfalso; simp_all)
        · skip
          refine ACall.body tab_ok (ρ := 0) (N := 40) Tryz.func46 rfl rfl rfl rfl rfl ?_
          repeat' first | ((refine And.intro (⟨by decide, by simp [Ty.rows]⟩ : _ ∧ _) ?_; conv => whnf)) | ((intro row hrow; obtain rfl := Option.some.inj hrow; conv => whnf)) | refine AW.seq ?_ | refine AW.block ?_ | (refine (id : AW _ _ _ (.region 3 _ true) _ _ → _) ?_; refine AW.draw (id := 3) tab_ok mixed [0, 1, 2, 3, 4] (by kernel_rfl) ?_; conv => whnf) | (refine (id : AW _ _ _ (.region 5 _ true) _ _ → _) ?_; refine AW.draw (id := 5) tab_ok mixed [0, 1, 2, 3, 4] (by kernel_rfl) ?_; conv => whnf) | (refine (id : AW _ _ _ (.region 7 _ true) _ _ → _) ?_; refine AW.draw (id := 7) tab_ok mixed [0, 1, 2, 3, 4] (by kernel_rfl) ?_; conv => whnf) | (refine (id : AW _ _ _ (.region 8 _ true) _ _ → _) ?_; refine AW.draw (id := 8) tab_ok mixed [0, 1, 2, 3, 4, 5, 6, 7, 8, 9, 10] (by kernel_rfl) ?_; conv => whnf) | ((first | refine AW.region tab_ok ?_ | refine AW.cond ?_ | refine AW.skip ?_ | refine AW.ret ?_ | refine AW.exit ?_); conv => whnf) | (refine (c1).mono ?_; rintro _ _ ⟨rfl, rfl⟩; conv => whnf) | ((first | refine And.intro (@rfl Val _) ?_ | refine And.intro (by decide) ?_ | refine cs (fun _ => ?_) (fun _ => ?_)) <;> conv => whnf)
          all_goals first | exact ⟨rfl, rfl⟩ | (exfalso; simp_all)
        · skip
          refine ACall.body tab_ok (ρ := 0) (N := 40) Tryz.func46 rfl rfl rfl rfl rfl ?_
          repeat' first | ((refine And.intro (⟨by decide, by simp [Ty.rows]⟩ : _ ∧ _) ?_; conv => whnf)) | ((intro row hrow; obtain rfl := Option.some.inj hrow; conv => whnf)) | refine AW.seq ?_ | refine AW.block ?_ | (refine (id : AW _ _ _ (.region 3 _ true) _ _ → _) ?_; refine AW.draw (id := 3) tab_ok mixed [0, 1, 2, 3, 4] (by kernel_rfl) ?_; conv => whnf) | (refine (id : AW _ _ _ (.region 5 _ true) _ _ → _) ?_; refine AW.draw (id := 5) tab_ok mixed [0, 1, 2, 3, 4] (by kernel_rfl) ?_; conv => whnf) | (refine (id : AW _ _ _ (.region 7 _ true) _ _ → _) ?_; refine AW.draw (id := 7) tab_ok mixed [0, 1, 2, 3, 4] (by kernel_rfl) ?_; conv => whnf) | (refine (id : AW _ _ _ (.region 8 _ true) _ _ → _) ?_; refine AW.draw (id := 8) tab_ok mixed [0, 1, 2, 3, 4, 5, 6, 7, 8, 9, 10] (by kernel_rfl) ?_; conv => whnf) | ((first | refine AW.region tab_ok ?_ | refine AW.cond ?_ | refine AW.skip ?_ | refine AW.ret ?_ | refine AW.exit ?_); conv => whnf) | (refine (c1).mono ?_; rintro _ _ ⟨rfl, rfl⟩; conv => whnf) | ((first | refine And.intro (@rfl Val _) ?_ | refine And.intro (by decide) ?_ | refine cs (fun _ => ?_) (fun _ => ?_)) <;> conv => whnf)
          all_goals first | exact ⟨rfl, rfl⟩ | (exfalso; simp_all)
      · have e1 : asL q (.node k ks) = unk := by simp [asL, h1]
        have e2 : asR q (.node k ks) = unk := by simp [asR, h1]
        have e3 : asB q (.node k ks) = false := by simp [asB, h0, h1]
        rw [e1, e2, e3]
        rcases hq with rfl | rfl | rfl
        · skip
          refine ACall.body tab_ok (ρ := 0) (N := 40) Tryz.func46 rfl rfl rfl rfl rfl ?_
          repeat' first | refine AW.seq ?_ | refine AW.block ?_ | (refine (id : AW _ _ _ (.region 3 _ true) _ _ → _) ?_; refine AW.draw (id := 3) tab_ok mixed [0, 1, 2, 3, 4] (by kernel_rfl) ?_; conv => whnf) | (refine (id : AW _ _ _ (.region 5 _ true) _ _ → _) ?_; refine AW.draw (id := 5) tab_ok mixed [0, 1, 2, 3, 4] (by kernel_rfl) ?_; conv => whnf) | (refine (id : AW _ _ _ (.region 7 _ true) _ _ → _) ?_; refine AW.draw (id := 7) tab_ok mixed [0, 1, 2, 3, 4] (by kernel_rfl) ?_; conv => whnf) | (refine (id : AW _ _ _ (.region 8 _ true) _ _ → _) ?_; refine AW.draw (id := 8) tab_ok mixed [0, 1, 2, 3, 4, 5, 6, 7, 8, 9, 10] (by kernel_rfl) ?_; conv => whnf) | ((first | refine AW.region tab_ok ?_ | refine AW.cond ?_ | refine AW.skip ?_ | refine AW.ret ?_ | refine AW.exit ?_); conv => whnf) | (refine (c1).mono ?_; rintro _ _ ⟨rfl, rfl⟩; conv => whnf) | ((first | refine And.intro (@rfl Val _) ?_ | refine And.intro (by decide) ?_ | refine cs (fun _ => ?_) (fun _ => ?_)) <;> conv => whnf)
          all_goals first | exact ⟨rfl, rfl⟩ | (exfalso; simp_all)
        · skip
          refine ACall.body tab_ok (ρ := 0) (N := 40) Tryz.func46 rfl rfl rfl rfl rfl ?_
          repeat' first | refine AW.seq ?_ | refine AW.block ?_ | (refine (id : AW _ _ _ (.region 3 _ true) _ _ → _) ?_; refine AW.draw (id := 3) tab_ok mixed [0, 1, 2, 3, 4] (by kernel_rfl) ?_; conv => whnf) | (refine (id : AW _ _ _ (.region 5 _ true) _ _ → _) ?_; refine AW.draw (id := 5) tab_ok mixed [0, 1, 2, 3, 4] (by kernel_rfl) ?_; conv => whnf) | (refine (id : AW _ _ _ (.region 7 _ true) _ _ → _) ?_; refine AW.draw (id := 7) tab_ok mixed [0, 1, 2, 3, 4] (by kernel_rfl) ?_; conv => whnf) | (refine (id : AW _ _ _ (.region 8 _ true) _ _ → _) ?_; refine AW.draw (id := 8) tab_ok mixed [0, 1, 2, 3, 4, 5, 6, 7, 8, 9, 10] (by kernel_rfl) ?_; conv => whnf) | ((first | refine AW.region tab_ok ?_ | refine AW.cond ?_ | refine AW.skip ?_ | refine AW.ret ?_ | refine AW.exit ?_); conv => whnf) | (refine (c1).mono ?_; rintro _ _ ⟨rfl, rfl⟩; conv => whnf) | ((first | refine And.intro (@rfl Val _) ?_ | refine And.intro (by decide) ?_ | refine cs (fun _ => ?_) (fun _ => ?_)) <;> conv => whnf)
          all_goals first | exact ⟨rfl, rfl⟩ | (exfalso; simp_all)
        · skip
          refine ACall.body tab_ok (ρ := 0) (N := 40) Tryz.func46 rfl rfl rfl rfl rfl ?_
          repeat' first | refine AW.seq ?_ | refine AW.block ?_ | (refine (id : AW _ _ _ (.region 3 _ true) _ _ → _) ?_; refine AW.draw (id := 3) tab_ok mixed [0, 1, 2, 3, 4] (by kernel_rfl) ?_; conv => whnf) | (refine (id : AW _ _ _ (.region 5 _ true) _ _ → _) ?_; refine AW.draw (id := 5) tab_ok mixed [0, 1, 2, 3, 4] (by kernel_rfl) ?_; conv => whnf) | (refine (id : AW _ _ _ (.region 7 _ true) _ _ → _) ?_; refine AW.draw (id := 7) tab_ok mixed [0, 1, 2, 3, 4] (by kernel_rfl) ?_; conv => whnf) | (refine (id : AW _ _ _ (.region 8 _ true) _ _ → _) ?_; refine AW.draw (id := 8) tab_ok mixed [0, 1, 2, 3, 4, 5, 6, 7, 8, 9, 10] (by kernel_rfl) ?_; conv => whnf) | ((first | refine AW.region tab_ok ?_ | refine AW.cond ?_ | refine AW.skip ?_ | refine AW.ret ?_ | refine AW.exit ?_); conv => whnf) | (refine (c1).mono ?_; rintro _ _ ⟨rfl, rfl⟩; conv => whnf) | ((first | refine And.intro (@rfl Val _) ?_ | refine And.intro (by decide) ?_ | refine cs (fun _ => ?_) (fun _ => ?_)) <;> conv => whnf)
          all_goals first | exact ⟨rfl, rfl⟩ | (exfalso; simp_all)
  · have e1 : asL q (.node k ks) = unk := by simp [asL, h]
    have e2 : asR q (.node k ks) = unk := by simp [asR, h]
    have e3 : asB q (.node k ks) = false := by simp [asB, h]
    rw [e1, e2, e3]
    generalize tcheck (.node k ks) = E at *
    rcases hq with rfl | rfl | rfl
    · skip
      refine ACall.body tab_ok (ρ := 0) (N := 40) Tryz.func46 rfl rfl rfl rfl rfl ?_
      repeat' first | refine AW.seq ?_ | refine AW.block ?_ | (refine (id : AW _ _ _ (.region 3 _ true) _ _ → _) ?_; refine AW.draw (id := 3) tab_ok mixed [0, 1, 2, 3, 4] (by kernel_rfl) ?_; conv => whnf) | (refine (id : AW _ _ _ (.region 5 _ true) _ _ → _) ?_; refine AW.draw (id := 5) tab_ok mixed [0, 1, 2, 3, 4] (by kernel_rfl) ?_; conv => whnf) | (refine (id : AW _ _ _ (.region 7 _ true) _ _ → _) ?_; refine AW.draw (id := 7) tab_ok mixed [0, 1, 2, 3, 4] (by kernel_rfl) ?_; conv => whnf) | (refine (id : AW _ _ _ (.region 8 _ true) _ _ → _) ?_; refine AW.draw (id := 8) tab_ok mixed [0, 1, 2, 3, 4, 5, 6, 7, 8, 9, 10] (by kernel_rfl) ?_; conv => whnf) | ((first | refine AW.region tab_ok ?_ | refine AW.cond ?_ | refine AW.skip ?_ | refine AW.ret ?_ | refine AW.exit ?_); conv => whnf) | (refine (c1).mono ?_; rintro _ _ ⟨rfl, rfl⟩; conv => whnf) | ((first | refine And.intro (@rfl Val _) ?_ | refine And.intro (by decide) ?_ | refine cs (fun _ => ?_) (fun _ => ?_)) <;> conv => whnf)
      all_goals first | exact ⟨rfl, rfl⟩ | (exfalso; simp_all)
    · skip
      refine ACall.body tab_ok (ρ := 0) (N := 40) Tryz.func46 rfl rfl rfl rfl rfl ?_
      repeat' first | refine AW.seq ?_ | refine AW.block ?_ | (refine (id : AW _ _ _ (.region 3 _ true) _ _ → _) ?_; refine AW.draw (id := 3) tab_ok mixed [0, 1, 2, 3, 4] (by kernel_rfl) ?_; conv => whnf) | (refine (id : AW _ _ _ (.region 5 _ true) _ _ → _) ?_; refine AW.draw (id := 5) tab_ok mixed [0, 1, 2, 3, 4] (by kernel_rfl) ?_; conv => whnf) | (refine (id : AW _ _ _ (.region 7 _ true) _ _ → _) ?_; refine AW.draw (id := 7) tab_ok mixed [0, 1, 2, 3, 4] (by kernel_rfl) ?_; conv => whnf) | (refine (id : AW _ _ _ (.region 8 _ true) _ _ → _) ?_; refine AW.draw (id := 8) tab_ok mixed [0, 1, 2, 3, 4, 5, 6, 7, 8, 9, 10] (by kernel_rfl) ?_; conv => whnf) | ((first | refine AW.region tab_ok ?_ | refine AW.cond ?_ | refine AW.skip ?_ | refine AW.ret ?_ | refine AW.exit ?_); conv => whnf) | (refine (c1).mono ?_; rintro _ _ ⟨rfl, rfl⟩; conv => whnf) | ((first | refine And.intro (@rfl Val _) ?_ | refine And.intro (by decide) ?_ | refine cs (fun _ => ?_) (fun _ => ?_)) <;> conv => whnf)
      all_goals first | exact ⟨rfl, rfl⟩ | (exfalso; simp_all)
    · skip
      refine ACall.body tab_ok (ρ := 0) (N := 40) Tryz.func46 rfl rfl rfl rfl rfl ?_
      repeat' first | refine AW.seq ?_ | refine AW.block ?_ | (refine (id : AW _ _ _ (.region 3 _ true) _ _ → _) ?_; refine AW.draw (id := 3) tab_ok mixed [0, 1, 2, 3, 4] (by kernel_rfl) ?_; conv => whnf) | (refine (id : AW _ _ _ (.region 5 _ true) _ _ → _) ?_; refine AW.draw (id := 5) tab_ok mixed [0, 1, 2, 3, 4] (by kernel_rfl) ?_; conv => whnf) | (refine (id : AW _ _ _ (.region 7 _ true) _ _ → _) ?_; refine AW.draw (id := 7) tab_ok mixed [0, 1, 2, 3, 4] (by kernel_rfl) ?_; conv => whnf) | (refine (id : AW _ _ _ (.region 8 _ true) _ _ → _) ?_; refine AW.draw (id := 8) tab_ok mixed [0, 1, 2, 3, 4, 5, 6, 7, 8, 9, 10] (by kernel_rfl) ?_; conv => whnf) | ((first | refine AW.region tab_ok ?_ | refine AW.cond ?_ | refine AW.skip ?_ | refine AW.ret ?_ | refine AW.exit ?_); conv => whnf) | (refine (c1).mono ?_; rintro _ _ ⟨rfl, rfl⟩; conv => whnf) | ((first | refine And.intro (@rfl Val _) ?_ | refine And.intro (by decide) ?_ | refine cs (fun _ => ?_) (fun _ => ?_)) <;> conv => whnf)
      all_goals first | exact ⟨rfl, rfl⟩ | (exfalso; simp_all)
end Go.Proofs.YtlboogackecjlaaGreat.E

/- proof: the rules. No conditions. -/
set_option linter.unusedVariables false
set_option linter.unusedSimpArgs false
namespace Go.Proofs.YtlboogackecjlaaGreat.E
open Go
def oTPv3_41_1 : OT := (.op 0 (.op 1 (.op 2 (.op 3 (.op 4 (.op 5 (.op 6 (.op 7 (.alt (.op 8 (.op 9 (.op 10 (.op 11 .nil)))) (.op 9 (.op 8 (.op 10 (.op 11 .nil)))))))))))))
def oTPv3_50_1 : OT := (.op 0 (.op 1 (.op 2 (.op 3 (.op 4 (.op 5 (.op 6 (.alt (.op 7 (.op 8 (.op 9 (.op 10 .nil)))) (.op 8 (.op 7 (.op 9 (.op 10 .nil))))))))))))

def ofB (q : Int) (a b : Ty) : Bool := decide (tcheck (.node q [a, b]) = 0)
set_option maxRecDepth 10000 in
theorem pof_call (q : Int) (a b : Ty) : ACall Tryz.prog 42 [.c (.d (.int .i8 q)), a.val, b.val] [] (fun o σ => o = .ret (.tup [(Ty.node q [a, b]).val, .c (.d (.bool (ofB q a b)))]) ∧ σ = []) := by
  have c1 := check_call (.node q [a, b])
  unfold ofB
  generalize tcheck (.node q [a, b]) = E at *
  obtain ⟨ka, zas⟩ := a
  obtain ⟨kb, bs⟩ := b
  refine ACall.body tab_ok (ρ := 0) (N := 18) Tryz.func42 rfl rfl rfl rfl rfl ?_
  repeat' first | refine AW.seq ?_ | refine AW.block ?_ | (refine (id : AW _ _ _ (.region 2 _ true) _ _ → _) ?_; refine AW.draw (id := 2) tab_ok mixed [0, 1, 2, 3, 4, 5] (by kernel_rfl) ?_; conv => whnf) | ((first | refine AW.region tab_ok ?_ | refine AW.cond ?_ | refine AW.skip ?_ | refine AW.ret ?_ | refine AW.exit ?_); conv => whnf) | (refine (c1).mono ?_; rintro _ _ ⟨rfl, rfl⟩; conv => whnf) | ((first | refine And.intro (@rfl Val _) ?_ | refine And.intro (by decide) ?_ | refine cs (fun _ => ?_) (fun _ => ?_)) <;> conv => whnf)
  all_goals first | exact ⟨rfl, rfl⟩
set_option maxRecDepth 10000 in
theorem part1_call (k : Int) (name arg : ByteArray) (num tk : Int) (tks : List Ty) (uk : Int) (uks : List Ty) (label place : Int) (ks : List Tm) (a : Ty) (b : Bool) : ACall Tryz.prog 75 [.c (.d (.rp 0 (Tm.node k name arg num tk tks uk uks label place ks).cells)), .c (.d (.sl 0 2 (Ty.rows [a]))), .c (.d (.rp 0 [.bool b]))] [] (fun o σ => o = .ret (.tup [(if b then asR 4 a else asL 4 a).val, .c (.d (.bool (asB 4 a)))]) ∧ σ = []) := by
  have c1 := As_call 4 (by decide) a
  generalize asR 4 a = r at *
  generalize asL 4 a = l at *
  generalize asB 4 a = ok at *
  obtain ⟨ka, zas⟩ := a
  obtain ⟨kr, rs⟩ := r
  obtain ⟨kl, ls⟩ := l
  refine ACall.body tab_ok (ρ := 0) (N := 23) Tryz.func75 rfl rfl rfl rfl rfl ?_
  repeat' first | ((refine And.intro (⟨by decide, by simp [Ty.rows]⟩ : _ ∧ _) ?_; conv => whnf)) | ((intro row hrow; obtain rfl := Option.some.inj hrow; conv => whnf)) | refine AW.seq ?_ | refine AW.block ?_ | ((first | refine AW.region tab_ok ?_ | refine AW.cond ?_ | refine AW.skip ?_ | refine AW.ret ?_ | refine AW.exit ?_); conv => whnf) | (refine (c1).mono ?_; rintro _ _ ⟨rfl, rfl⟩; conv => whnf) | ((first | refine And.intro (@rfl Val _) ?_ | refine And.intro (by decide) ?_ | refine cs (fun _ => ?_) (fun _ => ?_)) <;> conv => whnf)
  all_goals (rename_i g; cases g; exact ⟨rfl, rfl⟩)
set_option maxRecDepth 10000 in
theorem tab1_call (k : Int) (name arg : ByteArray) (num tk : Int) (tks : List Ty) (uk : Int) (uks : List Ty) (label place : Int) (ks : List Tm) (a : Ty) : ACall Tryz.prog 41 [.c (.d (.rp 0 (Tm.node k name arg num tk tks uk uks label place ks).cells)), .c (.d (.sl 0 2 (Ty.rows [a])))] [] (fun o σ => o = .ret (.tup [(Ty.node 3 [.node tk tks, a]).val, .c (.d (.bool (ofB 3 (.node tk tks) a)))]) ∧ σ = []) := by
  have c1 := pof_call 3 (.node tk tks) a
  generalize ofB 3 (.node tk tks) a = E at *
  obtain ⟨ka, zas⟩ := a
  refine ACall.body tab_ok (ρ := 0) (N := 16) Tryz.func41 rfl rfl rfl rfl rfl ?_
  repeat' first | ((refine And.intro (⟨by decide, by simp [Ty.rows]⟩ : _ ∧ _) ?_; conv => whnf)) | ((intro row hrow; obtain rfl := Option.some.inj hrow; conv => whnf)) | refine AW.seq ?_ | refine AW.block ?_ | (refine (id : AW _ _ _ (.region 1 _ true) _ _ → _) ?_; refine AW.drawT (id := 1) tab_ok mixed [0, 1, 2, 3, 4, 5, 6, 7, 8, 9, 10, 11] oTPv3_41_1 (by kernel_rfl) ?_; conv => whnf) | (refine Fork.mk ?_ ?_ <;> conv => whnf) | ((first | refine AW.region tab_ok ?_ | refine AW.cond ?_ | refine AW.skip ?_ | refine AW.ret ?_ | refine AW.exit ?_); conv => whnf) | (refine (c1).mono ?_; rintro _ _ ⟨rfl, rfl⟩; conv => whnf) | ((first | refine And.intro (@rfl Val _) ?_ | refine And.intro (by decide) ?_ | refine cs (fun _ => ?_) (fun _ => ?_)) <;> conv => whnf)
  all_goals first | exact ⟨rfl, rfl⟩
set_option maxRecDepth 10000 in
theorem tab4_call (k : Int) (name arg : ByteArray) (num tk : Int) (tks : List Ty) (uk : Int) (uks : List Ty) (label place : Int) (ks : List Tm) (a b : Ty) : ACall Tryz.prog 47 [.c (.d (.rp 0 (Tm.node k name arg num tk tks uk uks label place ks).cells)), .c (.d (.sl 0 2 (Ty.rows [a, b])))] [] (fun o σ => o = .ret (.tup [(b).val, .c (.d (.bool (agreeS a (.node tk tks))))]) ∧ σ = []) := by
  have c1 := Agree_call a (.node tk tks)
  generalize agreeS a (.node tk tks) = E at *
  obtain ⟨ka, zas⟩ := a
  obtain ⟨kb, bs⟩ := b
  refine ACall.body tab_ok (ρ := 0) (N := 17) Tryz.func47 rfl rfl rfl rfl rfl ?_
  repeat' first | ((refine And.intro (⟨by decide, by simp [Ty.rows]⟩ : _ ∧ _) ?_; conv => whnf)) | ((intro row hrow; obtain rfl := Option.some.inj hrow; conv => whnf)) | refine AW.seq ?_ | refine AW.block ?_ | (refine (id : AW _ _ _ (.region 1 _ true) _ _ → _) ?_; refine AW.draw (id := 1) tab_ok mixed [0, 1, 2, 3, 4, 5, 6, 7, 8, 9, 10, 11, 12] (by kernel_rfl) ?_; conv => whnf) | ((first | refine AW.region tab_ok ?_ | refine AW.cond ?_ | refine AW.skip ?_ | refine AW.ret ?_ | refine AW.exit ?_); conv => whnf) | (refine (c1).mono ?_; rintro _ _ ⟨rfl, rfl⟩; conv => whnf) | ((first | refine And.intro (@rfl Val _) ?_ | refine And.intro (by decide) ?_ | refine cs (fun _ => ?_) (fun _ => ?_)) <;> conv => whnf)
  all_goals first | exact ⟨rfl, rfl⟩
set_option maxRecDepth 10000 in
theorem tab6_call (k : Int) (name arg : ByteArray) (num tk : Int) (tks : List Ty) (uk : Int) (uks : List Ty) (label place : Int) (ks : List Tm) (a b : Ty) : ACall Tryz.prog 50 [.c (.d (.rp 0 (Tm.node k name arg num tk tks uk uks label place ks).cells)), .c (.d (.sl 0 2 (Ty.rows [a, b])))] [] (fun o σ => o = .ret (.tup [(Ty.node 4 [a, b]).val, .c (.d (.bool (ofB 4 a b)))]) ∧ σ = []) := by
  have c1 := pof_call 4 a b
  generalize ofB 4 a b = E at *
  obtain ⟨ka, zas⟩ := a
  obtain ⟨kb, bs⟩ := b
  refine ACall.body tab_ok (ρ := 0) (N := 15) Tryz.func50 rfl rfl rfl rfl rfl ?_
  repeat' first | ((refine And.intro (⟨by decide, by simp [Ty.rows]⟩ : _ ∧ _) ?_; conv => whnf)) | ((intro row hrow; obtain rfl := Option.some.inj hrow; conv => whnf)) | refine AW.seq ?_ | refine AW.block ?_ | (refine (id : AW _ _ _ (.region 1 _ true) _ _ → _) ?_; refine AW.drawT (id := 1) tab_ok mixed [0, 1, 2, 3, 4, 5, 6, 7, 8, 9, 10] oTPv3_50_1 (by kernel_rfl) ?_; conv => whnf) | (refine Fork.mk ?_ ?_ <;> conv => whnf) | ((first | refine AW.region tab_ok ?_ | refine AW.cond ?_ | refine AW.skip ?_ | refine AW.ret ?_ | refine AW.exit ?_); conv => whnf) | (refine (c1).mono ?_; rintro _ _ ⟨rfl, rfl⟩; conv => whnf) | ((first | refine And.intro (@rfl Val _) ?_ | refine And.intro (by decide) ?_ | refine cs (fun _ => ?_) (fun _ => ?_)) <;> conv => whnf)
  all_goals first | exact ⟨rfl, rfl⟩
set_option maxRecDepth 10000 in
theorem tab8_call (k : Int) (name arg : ByteArray) (num tk : Int) (tks : List Ty) (uk : Int) (uks : List Ty) (label place : Int) (ks : List Tm) (a : Ty) : ACall Tryz.prog 52 [.c (.d (.rp 0 (Tm.node k name arg num tk tks uk uks label place ks).cells)), .c (.d (.sl 0 2 (Ty.rows [a])))] [] (fun o σ => o = .ret (.tup [(Ty.node tk tks).val, .c (.d (.bool (agreeS a (.node tk tks))))]) ∧ σ = []) := by
  have c1 := Agree_call a (.node tk tks)
  generalize agreeS a (.node tk tks) = E at *
  obtain ⟨ka, zas⟩ := a
  refine ACall.body tab_ok (ρ := 0) (N := 18) Tryz.func52 rfl rfl rfl rfl rfl ?_
  repeat' first | ((refine And.intro (⟨by decide, by simp [Ty.rows]⟩ : _ ∧ _) ?_; conv => whnf)) | ((intro row hrow; obtain rfl := Option.some.inj hrow; conv => whnf)) | refine AW.seq ?_ | refine AW.block ?_ | (refine (id : AW _ _ _ (.region 1 _ true) _ _ → _) ?_; refine AW.draw (id := 1) tab_ok mixed [0, 1, 2, 3, 4, 5, 6, 7, 8, 9, 10, 11, 12, 13] (by kernel_rfl) ?_; conv => whnf) | ((first | refine AW.region tab_ok ?_ | refine AW.cond ?_ | refine AW.skip ?_ | refine AW.ret ?_ | refine AW.exit ?_); conv => whnf) | (refine (c1).mono ?_; rintro _ _ ⟨rfl, rfl⟩; conv => whnf) | ((first | refine And.intro (@rfl Val _) ?_ | refine And.intro (by decide) ?_ | refine cs (fun _ => ?_) (fun _ => ?_)) <;> conv => whnf)
  all_goals first | exact ⟨rfl, rfl⟩
end Go.Proofs.YtlboogackecjlaaGreat.E

/- proof: the other rules. No conditions. -/
set_option linter.unusedVariables false
set_option linter.unusedSimpArgs false
namespace Go.Proofs.YtlboogackecjlaaGreat.E
open Go
def oTPv4_43_3 : OT := (.op 0 (.op 1 (.op 2 (.op 3 (.op 4 (.op 5 (.op 6 (.op 7 (.op 8 (.alt (.op 9 (.op 10 (.op 11 (.op 12 .nil)))) (.op 10 (.op 9 (.op 11 (.op 12 .nil))))))))))))))
def oTPv4_48_1 : OT := (.op 0 (.op 1 (.op 2 (.op 3 (.op 4 (.op 5 (.alt (.op 6 (.op 7 (.alt (.op 8 (.alt (.op 9 (.op 10 (.op 11 (.op 12 .nil)))) (.op 10 (.alt (.op 9 (.op 11 (.op 12 .nil))) (.op 11 (.op 9 (.op 12 .nil))))))) (.alt (.op 9 (.alt (.op 8 (.op 10 (.op 11 (.op 12 .nil)))) (.op 10 (.op 8 (.op 11 (.op 12 .nil)))))) (.op 10 (.alt (.op 8 (.alt (.op 9 (.op 11 (.op 12 .nil))) (.op 11 (.op 9 (.op 12 .nil))))) (.op 9 (.op 8 (.op 11 (.op 12 .nil)))))))))) (.op 10 (.op 6 (.op 7 (.alt (.op 8 (.alt (.op 9 (.op 11 (.op 12 .nil))) (.op 11 (.op 9 (.op 12 .nil))))) (.op 9 (.op 8 (.op 11 (.op 12 .nil)))))))))))))))
def oTPv4_51_2 : OT := (.op 0 (.op 1 (.op 2 (.op 3 (.op 4 (.op 5 (.alt (.op 6 (.op 7 (.alt (.op 8 (.alt (.op 9 (.op 10 (.op 11 (.op 12 .nil)))) (.op 10 (.alt (.op 9 (.op 11 (.op 12 .nil))) (.op 11 (.op 9 (.op 12 .nil))))))) (.alt (.op 9 (.alt (.op 8 (.op 10 (.op 11 (.op 12 .nil)))) (.op 10 (.op 8 (.op 11 (.op 12 .nil)))))) (.op 10 (.alt (.op 8 (.alt (.op 9 (.op 11 (.op 12 .nil))) (.op 11 (.op 9 (.op 12 .nil))))) (.op 9 (.op 8 (.op 11 (.op 12 .nil)))))))))) (.op 10 (.op 6 (.op 7 (.alt (.op 8 (.alt (.op 9 (.op 11 (.op 12 .nil))) (.op 11 (.op 9 (.op 12 .nil))))) (.op 9 (.op 8 (.op 11 (.op 12 .nil)))))))))))))))

set_option maxRecDepth 10000 in
theorem tab2_call (k : Int) (name arg : ByteArray) (num tk : Int) (tks : List Ty) (uk : Int) (uks : List Ty) (label place : Int) (ks : List Tm) (a : Ty) : ACall Tryz.prog 43 [.c (.d (.rp 0 (Tm.node k name arg num tk tks uk uks label place ks).cells)), .c (.d (.sl 0 2 (Ty.rows [a])))] [] (fun o σ => o = .ret (.tup [(if agreeS a (.node uk uks) then Ty.node 3 [(.node tk tks), (.node uk uks)] else unk).val, .c (.d (.bool (agreeS a (.node uk uks) && ofB 3 (.node tk tks) (.node uk uks))))]) ∧ σ = []) := by
  have c1 := Agree_call a (.node uk uks)
  have c2 := pof_call 3 (.node tk tks) (.node uk uks)
  generalize agreeS a (.node uk uks) = E at *
  generalize ofB 3 (.node tk tks) (.node uk uks) = F at *
  obtain ⟨ka, zas⟩ := a
  refine ACall.body tab_ok (ρ := 0) (N := 27) Tryz.func43 rfl rfl rfl rfl rfl ?_
  repeat' first | ((refine And.intro (⟨by decide, by simp [Ty.rows]⟩ : _ ∧ _) ?_; conv => whnf)) | ((intro row hrow; obtain rfl := Option.some.inj hrow; conv => whnf)) | refine AW.seq ?_ | refine AW.block ?_ | (refine (id : AW _ _ _ (.region 1 _ true) _ _ → _) ?_; refine AW.draw (id := 1) tab_ok mixed [0, 1, 2, 3, 4, 5, 6, 7, 8] (by kernel_rfl) ?_; conv => whnf) | (refine (id : AW _ _ _ (.region 3 _ true) _ _ → _) ?_; refine AW.drawT (id := 3) tab_ok mixed [0, 1, 2, 3, 4, 5, 6, 7, 8, 9, 10, 11, 12] oTPv4_43_3 (by kernel_rfl) ?_; conv => whnf) | (refine Fork.mk ?_ ?_ <;> conv => whnf) | ((first | refine AW.region tab_ok ?_ | refine AW.cond ?_ | refine AW.skip ?_ | refine AW.ret ?_ | refine AW.exit ?_); conv => whnf) | ((first | refine (c1).mono ?_ | refine (c2).mono ?_); rintro _ _ ⟨rfl, rfl⟩; conv => whnf) | ((first | refine And.intro (@rfl Val _) ?_ | refine And.intro (by decide) ?_ | refine cs (fun _ => ?_) (fun _ => ?_)) <;> conv => whnf)
  all_goals first | exact ⟨rfl, rfl⟩ | (cases E <;> cases F <;> first | exact ⟨rfl, rfl⟩ | (exfalso; simp_all))
set_option maxRecDepth 10000 in
theorem tab3_call (k : Int) (name arg : ByteArray) (num tk : Int) (tks : List Ty) (uk : Int) (uks : List Ty) (label place : Int) (ks : List Tm) (a b : Ty) : ACall Tryz.prog 45 [.c (.d (.rp 0 (Tm.node k name arg num tk tks uk uks label place ks).cells)), .c (.d (.sl 0 2 (Ty.rows [a, b])))] [] (fun o σ => o = .ret (.tup [(asR 3 a).val, .c (.d (.bool (asB 3 a && agreeS b (asL 3 a))))]) ∧ σ = []) := by
  have c1 := As_call 3 (by decide) a
  have c2 := Agree_call b (asL 3 a)
  generalize agreeS b (asL 3 a) = E at *
  generalize asR 3 a = r at *
  generalize asL 3 a = l at *
  generalize asB 3 a = F at *
  obtain ⟨ka, zas⟩ := a
  obtain ⟨kb, zbs⟩ := b
  obtain ⟨kr, zrs⟩ := r
  obtain ⟨kl, zls⟩ := l
  refine ACall.body tab_ok (ρ := 0) (N := 26) Tryz.func45 rfl rfl rfl rfl rfl ?_
  repeat' first | ((refine And.intro (⟨by decide, by simp [Ty.rows]⟩ : _ ∧ _) ?_; conv => whnf)) | ((intro row hrow; obtain rfl := Option.some.inj hrow; conv => whnf)) | refine AW.seq ?_ | refine AW.block ?_ | (refine (id : AW _ _ _ (.region 2 _ true) _ _ → _) ?_; refine AW.draw (id := 2) tab_ok mixed [0, 1, 2, 3, 4, 5, 6, 7, 8, 9, 10] (by kernel_rfl) ?_; conv => whnf) | ((first | refine AW.region tab_ok ?_ | refine AW.cond ?_ | refine AW.skip ?_ | refine AW.ret ?_ | refine AW.exit ?_); conv => whnf) | ((first | refine (c1).mono ?_ | refine (c2).mono ?_); rintro _ _ ⟨rfl, rfl⟩; conv => whnf) | ((first | refine And.intro (@rfl Val _) ?_ | refine And.intro (by decide) ?_ | refine cs (fun _ => ?_) (fun _ => ?_)) <;> conv => whnf)
  all_goals first | exact ⟨rfl, rfl⟩ | (cases F <;> cases E <;> first | exact ⟨rfl, rfl⟩ | (exfalso; simp_all))
set_option maxRecDepth 10000 in
theorem tab5_call (k : Int) (name arg : ByteArray) (num tk : Int) (tks : List Ty) (uk : Int) (uks : List Ty) (label place : Int) (ks : List Tm) (a b c : Ty) : ACall Tryz.prog 48 [.c (.d (.rp 0 (Tm.node k name arg num tk tks uk uks label place ks).cells)), .c (.d (.sl 0 2 (Ty.rows [a, b, c])))] [] (fun o σ => o = .ret (.tup [(MeetS b c).val, .c (.d (.bool (agreeS b c && agreeS a (.node 2 []) && decide (tcheck (MeetS b c) = 0))))]) ∧ σ = []) := by
  have c1 := Meet_call b c
  have c2 := Agree_call a (.node 2 [])
  have c3 := check_call (MeetS b c)
  generalize agreeS a (.node 2 []) = E at *
  generalize agreeS b c = F at *
  generalize tcheck (MeetS b c) = G at *
  generalize MeetS b c = m at *
  obtain ⟨ka, zas⟩ := a
  obtain ⟨kb, zbs⟩ := b
  obtain ⟨kc, zcs⟩ := c
  obtain ⟨km, zms⟩ := m
  refine ACall.body tab_ok (ρ := 0) (N := 32) Tryz.func48 rfl rfl rfl rfl rfl ?_
  repeat' first | ((refine And.intro (⟨by decide, by simp [Ty.rows]⟩ : _ ∧ _) ?_; conv => whnf)) | ((intro row hrow; obtain rfl := Option.some.inj hrow; conv => whnf)) | refine AW.seq ?_ | refine AW.block ?_ | (refine (id : AW _ _ _ (.region 1 _ true) _ _ → _) ?_; refine AW.drawT (id := 1) tab_ok mixed [0, 1, 2, 3, 4, 5, 6, 7, 8, 9, 10, 11, 12] oTPv4_48_1 (by kernel_rfl) ?_; conv => whnf) | (refine (id : AW _ _ _ (.region 2 _ true) _ _ → _) ?_; refine AW.draw (id := 2) tab_ok mixed [0, 1, 2, 3, 4, 5, 6, 7, 8, 9, 10, 11, 12, 13, 14, 15] (by kernel_rfl) ?_; conv => whnf) | (refine Fork.mk ?_ ?_ <;> conv => whnf) | ((first | refine AW.region tab_ok ?_ | refine AW.cond ?_ | refine AW.skip ?_ | refine AW.ret ?_ | refine AW.exit ?_); conv => whnf) | ((first | refine (c1).mono ?_ | refine (c2).mono ?_ | refine (c3).mono ?_); rintro _ _ ⟨rfl, rfl⟩; conv => whnf) | ((first | refine And.intro (@rfl Val _) ?_ | refine And.intro (by decide) ?_ | refine cs (fun _ => ?_) (fun _ => ?_)) <;> conv => whnf)
  all_goals first | exact ⟨rfl, rfl⟩ | (cases F <;> cases E <;> first | exact ⟨rfl, rfl⟩ | (exfalso; simp_all))
set_option maxRecDepth 10000 in
theorem tab7_call (k : Int) (name arg : ByteArray) (num tk : Int) (tks : List Ty) (uk : Int) (uks : List Ty) (label place : Int) (ks : List Tm) (a b c : Ty) : ACall Tryz.prog 51 [.c (.d (.rp 0 (Tm.node k name arg num tk tks uk uks label place ks).cells)), .c (.d (.sl 0 2 (Ty.rows [a, b, c])))] [] (fun o σ => o = .ret (.tup [(MeetS b c).val, .c (.d (.bool (asB 5 a && agreeS b c && decide (tcheck (MeetS b c) = 0))))]) ∧ σ = []) := by
  have c1 := Meet_call b c
  have c2 := As_call 5 (by decide) a
  have c3 := check_call (MeetS b c)
  generalize agreeS b c = F at *
  generalize tcheck (MeetS b c) = G at *
  generalize MeetS b c = m at *
  generalize asR 5 a = r at *
  generalize asL 5 a = l at *
  generalize asB 5 a = E at *
  obtain ⟨ka, zas⟩ := a
  obtain ⟨kb, zbs⟩ := b
  obtain ⟨kc, zcs⟩ := c
  obtain ⟨km, zms⟩ := m
  obtain ⟨kr, zrs⟩ := r
  obtain ⟨kl, zls⟩ := l
  refine ACall.body tab_ok (ρ := 0) (N := 39) Tryz.func51 rfl rfl rfl rfl rfl ?_
  repeat' first | ((refine And.intro (⟨by decide, by simp [Ty.rows]⟩ : _ ∧ _) ?_; conv => whnf)) | ((intro row hrow; obtain rfl := Option.some.inj hrow; conv => whnf)) | refine AW.seq ?_ | refine AW.block ?_ | (refine (id : AW _ _ _ (.region 2 _ true) _ _ → _) ?_; refine AW.drawT (id := 2) tab_ok mixed [0, 1, 2, 3, 4, 5, 6, 7, 8, 9, 10, 11, 12] oTPv4_51_2 (by kernel_rfl) ?_; conv => whnf) | (refine (id : AW _ _ _ (.region 3 _ true) _ _ → _) ?_; refine AW.draw (id := 3) tab_ok mixed [0, 1, 2, 3, 4, 5, 6, 7, 8, 9, 10, 11] (by kernel_rfl) ?_; conv => whnf) | (refine Fork.mk ?_ ?_ <;> conv => whnf) | ((first | refine AW.region tab_ok ?_ | refine AW.cond ?_ | refine AW.skip ?_ | refine AW.ret ?_ | refine AW.exit ?_); conv => whnf) | ((first | refine (c1).mono ?_ | refine (c2).mono ?_ | refine (c3).mono ?_); rintro _ _ ⟨rfl, rfl⟩; conv => whnf) | ((first | refine And.intro (@rfl Val _) ?_ | refine And.intro (by decide) ?_ | refine cs (fun _ => ?_) (fun _ => ?_)) <;> conv => whnf)
  all_goals first | exact ⟨rfl, rfl⟩ | (cases E <;> cases F <;> first | exact ⟨rfl, rfl⟩ | (exfalso; simp_all))
set_option maxRecDepth 10000 in
theorem into1_call (k : Int) (name arg : ByteArray) (num tk : Int) (tks : List Ty) (uk : Int) (uks : List Ty) (label place : Int) (ks : List Tm) (a : Ty) (b : Bool) : ACall Tryz.prog 76 [.c (.d (.rp 0 (Tm.node k name arg num tk tks uk uks label place ks).cells)), .c (.d (.sl 0 2 (Ty.rows [a]))), .c (.d (.rp 0 [.bool b]))] [] (fun o σ => o = .ret (.tup [(if asB 5 (.node tk tks) && agreeS a (if b then asR 5 (.node tk tks) else asL 5 (.node tk tks)) then Ty.node 5 [asL 5 (.node tk tks), asR 5 (.node tk tks)] else unk).val, .c (.d (.bool (asB 5 (.node tk tks) && agreeS a (if b then asR 5 (.node tk tks) else asL 5 (.node tk tks)) && ofB 5 (asL 5 (.node tk tks)) (asR 5 (.node tk tks)))))]) ∧ σ = []) := by
  have c1 := As_call 5 (by decide) (.node tk tks)
  have c2 := Agree_call a (asR 5 (.node tk tks))
  have c3 := Agree_call a (asL 5 (.node tk tks))
  have c4 := pof_call 5 (asL 5 (.node tk tks)) (asR 5 (.node tk tks))
  rw [show agreeS a (if b = true then asR 5 (.node tk tks) else asL 5 (.node tk tks)) = (if b = true then agreeS a (asR 5 (.node tk tks)) else agreeS a (asL 5 (.node tk tks))) by split <;> rfl]
  generalize agreeS a (asR 5 (.node tk tks)) = G at *
  generalize agreeS a (asL 5 (.node tk tks)) = H at *
  generalize ofB 5 (asL 5 (.node tk tks)) (asR 5 (.node tk tks)) = F at *
  generalize asR 5 (.node tk tks) = r at *
  generalize asL 5 (.node tk tks) = l at *
  generalize asB 5 (.node tk tks) = E at *
  obtain ⟨ka, zas⟩ := a
  obtain ⟨kr, zrs⟩ := r
  obtain ⟨kl, zls⟩ := l
  refine ACall.body tab_ok (ρ := 0) (N := 39) Tryz.func76 rfl rfl rfl rfl rfl ?_
  repeat' first | ((refine And.intro (⟨by decide, by simp [Ty.rows]⟩ : _ ∧ _) ?_; conv => whnf)) | ((intro row hrow; obtain rfl := Option.some.inj hrow; conv => whnf)) | refine AW.seq ?_ | refine AW.block ?_ | (refine (id : AW _ _ _ (.region 5 _ true) _ _ → _) ?_; refine AW.draw (id := 5) tab_ok mixed [0, 1, 2, 3, 4, 5, 6, 7, 8, 9] (by kernel_rfl) ?_; conv => whnf) | ((first | refine AW.region tab_ok ?_ | refine AW.cond ?_ | refine AW.skip ?_ | refine AW.ret ?_ | refine AW.exit ?_); conv => whnf) | ((first | refine (c1).mono ?_ | refine (c2).mono ?_ | refine (c3).mono ?_ | refine (c4).mono ?_); rintro _ _ ⟨rfl, rfl⟩; conv => whnf) | ((first | refine And.intro (@rfl Val _) ?_ | refine And.intro (by decide) ?_ | refine cs (fun _ => ?_) (fun _ => ?_)) <;> conv => whnf)
  all_goals first | exact ⟨rfl, rfl⟩ | (cases b <;> cases E <;> cases G <;> cases H <;> cases F <;> first | exact ⟨rfl, rfl⟩ | (exfalso; simp_all))
set_option maxRecDepth 10000 in
theorem op_call (k : Int) (name arg : ByteArray) (num tk : Int) (tks : List Ty) (uk : Int) (uks : List Ty) (label place : Int) (ks : List Tm) (a b : Ty) : ACall Tryz.prog 40 [.c (.d (.rp 0 (Tm.node k name arg num tk tks uk uks label place ks).cells)), .c (.d (.sl 0 2 (Ty.rows [a, b])))] [] (fun o σ => o = .ret (.tup [(if name = ⟨#[60]⟩ ∨ name = ⟨#[61]⟩ then Ty.node 2 [] else Ty.node 1 []).val, .c (.d (.bool (agreeS a (.node 1 []) && agreeS b (.node 1 []))))]) ∧ σ = []) := by
  have c1 := Agree_call a (.node 1 [])
  have c2 := Agree_call b (.node 1 [])
  generalize agreeS a (.node 1 []) = E at *
  generalize agreeS b (.node 1 []) = F at *
  obtain ⟨ka, zas⟩ := a
  obtain ⟨kb, zbs⟩ := b
  refine ACall.body tab_ok (ρ := 0) (N := 37) Tryz.func40 rfl rfl rfl rfl rfl ?_
  repeat' first | ((refine And.intro (⟨by decide, by simp [Ty.rows]⟩ : _ ∧ _) ?_; conv => whnf)) | ((intro row hrow; obtain rfl := Option.some.inj hrow; conv => whnf)) | refine AW.seq ?_ | refine AW.block ?_ | (refine (id : AW _ _ _ (.region 2 _ true) _ _ → _) ?_; refine AW.draw (id := 2) tab_ok mixed [0, 1, 2, 3, 4, 5, 6, 7, 8, 9, 10, 11, 12] (by kernel_rfl) ?_; conv => whnf) | ((first | refine AW.region tab_ok ?_ | refine AW.cond ?_ | refine AW.skip ?_ | refine AW.ret ?_ | refine AW.exit ?_); conv => whnf) | ((first | refine (c1).mono ?_ | refine (c2).mono ?_); rintro _ _ ⟨rfl, rfl⟩; conv => whnf) | ((first | refine And.intro (@rfl Val _) ?_ | refine And.intro (by decide) ?_ | refine cs (fun _ => ?_) (fun _ => ?_)) <;> conv => whnf)
  all_goals (cases E <;> cases F <;> first | exact ⟨rfl, rfl⟩ | (split <;> first | exact ⟨rfl, rfl⟩ | (exfalso; simp_all; done)) | (exfalso; simp_all; done))
end Go.Proofs.YtlboogackecjlaaGreat.E
