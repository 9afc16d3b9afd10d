/- The document's answer for casts: ref02.High, Ground, ref08.pos, neg, Pos, Neg. No conditions. -/
import Derived.Test.YtlboogackecjlaaGenX4
import Derived.Test.YtlboogackecjlaaGenX7
set_option linter.unusedVariables false
set_option linter.unusedSimpArgs false
namespace Go.Proofs.Ytlboogackecjlaa.E
open Go

set_option maxRecDepth 10000 in
theorem rHigh_call (a : Ty) : nodes a ≤ 8192 → ACall Try.prog 80 [a.val] [] (fun o σ => o = .ret (.c (.d (.int .i64 (tyH a)))) ∧ σ = []) := by
  induction a using Ty.ind with
  | _ k ks ih =>
  intro ha
  have hle := nodes_len ha
  have hh : tyH (.node k ks) = 1 + tyHL ks := by simp [tyH]
  have hl := tyHL_le ks
  simp only [nodes] at ha
  rw [hh]
  refine ACall.body tab_ok (ρ := 0) (N := 24) Try.func80 rfl rfl rfl rfl rfl ?_
  repeat' first | refine AW.seq ?_ | refine AW.block ?_ | ((first | refine AW.region tab_ok ?_ | refine AW.cond ?_ | refine AW.skip ?_ | refine AW.ret ?_ | refine AW.exit ?_); conv => whnf) | ((first | refine And.intro (@rfl Val _) ?_ | refine And.intro (by decide) ?_ | refine cs (fun _ => ?_) (fun _ => ?_)) <;> conv => whnf)
  refine AW.loop (ι := UpTo ks) (fun x => ⟨24, [(4, .c (.d (.int .i64 x.i))), (3, .c (.d (.int .i64 (tyHL (ks.take x.i))))), (1, .c (.ptr 0 0))], [.var [.d (.int .i8 k), .d (.sl 0 2 (Ty.rows ks))]], []⟩)
    (fun x => ks.length - x.i) ⟨0, Nat.zero_le _⟩ 1 (fun _ => rfl) (Nat.le_of_ble_eq_true rfl) ⟨⟨rfl, rfl, rfl, trivial⟩, rfl, rfl, ⟨[], rfl⟩, rfl⟩ (fun x => ?_)
  obtain ⟨i, hi⟩ := x
  repeat' first | refine AW.seq ?_ | refine AW.block ?_ | ((first | refine AW.region tab_ok ?_ | refine AW.cond ?_ | refine AW.skip ?_ | refine AW.ret ?_ | refine AW.exit ?_); conv => whnf) | ((first | refine And.intro (@rfl Val _) ?_ | refine And.intro (by decide) ?_ | refine cs (fun _ => ?_) (fun _ => ?_)) <;> conv => whnf)
  · rename_i h1
    simp only [rows_length] at h1 ⊢
    have := of_decide_eq_true h1
    refine ⟨by omega, fun row hrow => ?_⟩
    obtain ⟨x, ht, rfl⟩ := rows_get ks i row (by simpa using hrow)
    have hlt : i < ks.length := (List.getElem?_eq_some_iff.1 ht).1
    have hm := List.mem_of_getElem? ht
    have hc := ih x hm (by have := nodes_mem ks x hm; omega)
    have hn := tyHL_take ks i _ ht
    generalize tyH x = m at *
    obtain ⟨km, kms⟩ := x
    conv => whnf
    repeat' first | refine AW.seq ?_ | refine AW.block ?_ | ((first | refine AW.region tab_ok ?_ | refine AW.cond ?_ | refine AW.skip ?_ | refine AW.ret ?_ | refine AW.exit ?_); conv => whnf) | (refine (hc).mono ?_; rintro _ _ ⟨rfl, rfl⟩; conv => whnf) | ((first | refine And.intro (@rfl Val _) ?_ | refine And.intro (by decide) ?_ | refine cs (fun _ => ?_) (fun _ => ?_)) <;> conv => whnf)
    rw [wrap64 (x := (i : Int) + 1) (by omega) (by omega), show max ((tyHL (List.take i ks) : Nat) : Int) (m : Int) = (tyHL (List.take (i + 1) ks) : Nat) by rw [hn]; omega]
    exact ⟨⟨i + 1, hlt⟩, ⟨⟨rfl, rfl, rfl, trivial⟩, rfl, rfl, ⟨[], rfl⟩, rfl⟩, show ks.length - (i + 1) < ks.length - i by omega⟩
  · rename_i h1
    simp only [rows_length] at h1
    have := of_decide_eq_false h1
    obtain rfl : i = ks.length := by omega
    simp only [List.take_length]
    rw [wrap64 (x := (tyHL ks : Int) + 1) (by omega) (by omega), show (tyHL ks : Int) + 1 = ((1 + tyHL ks : Nat) : Int) by omega]
    first | exact ⟨rfl, rfl⟩ | exact ⟨rfl, trivial⟩
set_option maxRecDepth 10000 in
theorem cOf_call (k : Int) (a b : Ty) : ACall Try.prog 28 [.c (.d (.int .i8 k)), a.val, b.val] [] (fun o σ => o = .ret (Ty.node k [a, b]).val ∧ σ = []) := by
  obtain ⟨ka, kas⟩ := a
  obtain ⟨kb, kbs⟩ := b
  refine ACall.body tab_ok (ρ := 0) (N := 12) Try.func28 rfl rfl rfl rfl rfl ?_
  repeat' first | refine AW.seq ?_ | refine AW.block ?_ | ((first | refine AW.region tab_ok ?_ | refine AW.cond ?_ | refine AW.skip ?_ | refine AW.ret ?_ | refine AW.exit ?_); conv => whnf) | ((first | refine And.intro (@rfl Val _) ?_ | refine And.intro (by decide) ?_ | refine cs (fun _ => ?_) (fun _ => ?_)) <;> conv => whnf)
  exact ⟨rfl, rfl⟩
set_option maxRecDepth 10000 in
theorem rGround_call (a : Ty) (h : tcheck a = 0) (hk : a ≠ .node 0 []) : ACall Try.prog 116 [a.val] [] (fun o σ => o = .ret (.tup [(groundF a).val, .c (.d (.bool true))]) ∧ σ = []) := by
  have c1 := rcheck_call a
  rw [h] at c1
  have hr := tcheck_right h
  obtain ⟨k, ks⟩ := a
  have hk0 : k ≠ 0 := fun e => by
    subst e
    exact hk (by rw [right_zero hr])
  have hb : (k == 0) = false := by simpa using hk0
  have c2 := fun k => cOf_call k (.node 0 []) (.node 0 [])
  rcases parts_two hr hk0 with ⟨rfl, rfl | rfl⟩ | ⟨a, b, rfl, rfl | rfl | rfl⟩
  all_goals
    clear h hk hr hk0 hb
    refine ACall.body tab_ok (ρ := 0) (N := 25) Try.func116 rfl rfl rfl rfl rfl ?_
    repeat' first | refine AW.seq ?_ | refine AW.block ?_ | ((first | refine AW.region tab_ok ?_ | refine AW.cond ?_ | refine AW.skip ?_ | refine AW.ret ?_ | refine AW.exit ?_); conv => whnf) | ((first | refine (c1).mono ?_ | refine (c2 _).mono ?_); rintro _ _ ⟨rfl, rfl⟩; conv => whnf) | ((first | refine And.intro (@rfl Val _) ?_ | refine And.intro (by decide) ?_ | refine cs (fun _ => ?_) (fun _ => ?_)) <;> conv => whnf)
    exact ⟨rfl, rfl⟩
set_option maxRecDepth 10000 in
theorem rground_call (a : Ty) (h : tcheck a = 0) (hk : a ≠ .node 0 []) : ACall Try.prog 101 [a.val] [] (fun o σ => o = .ret (groundF a).val ∧ σ = []) := by
  have c1 := rGround_call a h hk
  generalize groundF a = g at *
  obtain ⟨kg, gs⟩ := g
  obtain ⟨k, ks⟩ := a
  refine ACall.body tab_ok (ρ := 0) (N := 11) Try.func101 rfl rfl rfl rfl rfl ?_
  repeat' first | refine AW.seq ?_ | refine AW.block ?_ | ((first | refine AW.region tab_ok ?_ | refine AW.cond ?_ | refine AW.skip ?_ | refine AW.ret ?_ | refine AW.exit ?_); conv => whnf) | (refine (c1).mono ?_; rintro _ _ ⟨rfl, rfl⟩; conv => whnf) | ((first | refine And.intro (@rfl Val _) ?_ | refine And.intro (by decide) ?_ | refine cs (fun _ => ?_) (fun _ => ?_)) <;> conv => whnf)
  exact ⟨rfl, rfl⟩
/-! ### pos, neg -/
/-- The relation's function: pos (false), neg (true). -/
def rel (w : Bool) : Nat := if w then 78 else 77
set_option maxRecDepth 10000 in
theorem rhold_leaf (w : Bool) (k : Int) (hk : k = 1 ∨ k = 2) : ACall Try.prog (rel w) [(Ty.node k []).val, (Ty.node k []).val] [] (fun o σ => o = .ret (.c (.d (.bool true))) ∧ σ = []) := by
  cases w
  · rcases hk with rfl | rfl
    all_goals
      refine (id : ACall Try.prog 77 _ _ _ → _) ?_
      refine ACall.body tab_ok (ρ := 0) (N := 73) Try.func77 rfl rfl rfl rfl rfl ?_
      repeat' first | refine AW.seq ?_ | refine AW.block ?_ | (refine (id : AW _ _ _ (.region 8 _ true) _ _ → _) ?_; refine AW.draw (id := 8) tab_ok mixed [0, 1, 2, 3, 4, 5, 6, 7, 8, 9, 10, 11, 12, 13, 14, 15, 16, 17, 18, 19, 20] (by kernel_rfl) ?_; conv => whnf) | (refine (id : AW _ _ _ (.region 9 _ true) _ _ → _) ?_; refine AW.draw (id := 9) tab_ok mixed [0, 1, 2, 3, 4, 5, 6, 7, 8, 9, 10, 11, 12, 13, 14, 15, 16, 17, 18, 19, 20] (by kernel_rfl) ?_; conv => whnf) | ((first | refine AW.region tab_ok ?_ | refine AW.cond ?_ | refine AW.skip ?_ | refine AW.ret ?_ | refine AW.exit ?_); conv => whnf) | ((first | refine And.intro (@rfl Val _) ?_ | refine And.intro (by decide) ?_ | refine cs (fun _ => ?_) (fun _ => ?_)) <;> conv => whnf)
      exact ⟨rfl, rfl⟩
  · rcases hk with rfl | rfl
    all_goals
      refine (id : ACall Try.prog 78 _ _ _ → _) ?_
      refine ACall.body tab_ok (ρ := 0) (N := 76) Try.func78 rfl rfl rfl rfl rfl ?_
      repeat' first | refine AW.seq ?_ | refine AW.block ?_ | (refine (id : AW _ _ _ (.region 4 _ true) _ _ → _) ?_; refine AW.draw (id := 4) tab_ok mixed [0, 1, 2, 3, 4] (by kernel_rfl) ?_; conv => whnf) | (refine (id : AW _ _ _ (.region 10 _ true) _ _ → _) ?_; refine AW.draw (id := 10) tab_ok mixed [0, 1, 2, 3, 4, 5, 6, 7, 8, 9, 10, 11, 12, 13, 14, 15, 16, 17, 18, 19, 20] (by kernel_rfl) ?_; conv => whnf) | (refine (id : AW _ _ _ (.region 11 _ true) _ _ → _) ?_; refine AW.draw (id := 11) tab_ok mixed [0, 1, 2, 3, 4, 5, 6, 7, 8, 9, 10, 11, 12, 13, 14, 15, 16, 17, 18, 19, 20] (by kernel_rfl) ?_; conv => whnf) | ((first | refine AW.region tab_ok ?_ | refine AW.cond ?_ | refine AW.skip ?_ | refine AW.ret ?_ | refine AW.exit ?_); conv => whnf) | ((first | refine And.intro (@rfl Val _) ?_ | refine And.intro (by decide) ?_ | refine cs (fun _ => ?_) (fun _ => ?_)) <;> conv => whnf)
      exact ⟨rfl, rfl⟩
set_option maxRecDepth 10000 in
theorem rpos_fun (a0 a1 b0 b1 : Ty) (r0 r1 : Bool) (c0 : ACall Try.prog 78 [b0.val, a0.val] [] (fun o σ => o = .ret (.c (.d (.bool r0))) ∧ σ = [])) (c1 : ACall Try.prog 77 [a1.val, b1.val] [] (fun o σ => o = .ret (.c (.d (.bool r1))) ∧ σ = [])) :
    ACall Try.prog 77 [(Ty.node 3 [a0, a1]).val, (Ty.node 3 [b0, b1]).val] [] (fun o σ => o = .ret (.c (.d (.bool (r0 && r1)))) ∧ σ = []) := by
  obtain ⟨ka0, as0⟩ := a0
  obtain ⟨ka1, as1⟩ := a1
  obtain ⟨kb0, bs0⟩ := b0
  obtain ⟨kb1, bs1⟩ := b1
  refine ACall.body tab_ok (ρ := 0) (N := 73) Try.func77 rfl rfl rfl rfl rfl ?_
  repeat' first | ((refine ⟨by simp [Ty.rows], fun row hrow => ?_⟩; simp [Ty.rows] at hrow; subst hrow; conv => whnf)) | refine AW.seq ?_ | refine AW.block ?_ | (refine (id : AW _ _ _ (.region 8 _ true) _ _ → _) ?_; refine AW.draw (id := 8) tab_ok mixed [0, 1, 2, 3, 4, 5, 6, 7, 8, 9, 10, 11, 12, 13, 14, 15, 16, 17, 18, 19, 20] (by kernel_rfl) ?_; conv => whnf) | (refine (id : AW _ _ _ (.region 9 _ true) _ _ → _) ?_; refine AW.draw (id := 9) tab_ok mixed [0, 1, 2, 3, 4, 5, 6, 7, 8, 9, 10, 11, 12, 13, 14, 15, 16, 17, 18, 19, 20] (by kernel_rfl) ?_; conv => whnf) | ((first | refine AW.region tab_ok ?_ | refine AW.cond ?_ | refine AW.skip ?_ | refine AW.ret ?_ | refine AW.exit ?_); conv => whnf) | ((first | refine (c0).mono ?_ | refine (c1).mono ?_); rintro _ _ ⟨rfl, rfl⟩; conv => whnf) | ((first | refine And.intro (@rfl Val _) ?_ | refine And.intro (by decide) ?_ | refine cs (fun _ => ?_) (fun _ => ?_)) <;> conv => whnf)
  all_goals exact ⟨outb (by simp_all), rfl⟩
set_option maxRecDepth 10000 in
theorem rneg_fun (a0 a1 b0 b1 : Ty) (r0 r1 : Bool) (c0 : ACall Try.prog 77 [b0.val, a0.val] [] (fun o σ => o = .ret (.c (.d (.bool r0))) ∧ σ = [])) (c1 : ACall Try.prog 78 [a1.val, b1.val] [] (fun o σ => o = .ret (.c (.d (.bool r1))) ∧ σ = [])) :
    ACall Try.prog 78 [(Ty.node 3 [a0, a1]).val, (Ty.node 3 [b0, b1]).val] [] (fun o σ => o = .ret (.c (.d (.bool (r0 && r1)))) ∧ σ = []) := by
  obtain ⟨ka0, as0⟩ := a0
  obtain ⟨ka1, as1⟩ := a1
  obtain ⟨kb0, bs0⟩ := b0
  obtain ⟨kb1, bs1⟩ := b1
  refine ACall.body tab_ok (ρ := 0) (N := 76) Try.func78 rfl rfl rfl rfl rfl ?_
  repeat' first | ((refine ⟨by simp [Ty.rows], fun row hrow => ?_⟩; simp [Ty.rows] at hrow; subst hrow; conv => whnf)) | refine AW.seq ?_ | refine AW.block ?_ | (refine (id : AW _ _ _ (.region 4 _ true) _ _ → _) ?_; refine AW.draw (id := 4) tab_ok mixed [0, 1, 2, 3, 4] (by kernel_rfl) ?_; conv => whnf) | (refine (id : AW _ _ _ (.region 10 _ true) _ _ → _) ?_; refine AW.draw (id := 10) tab_ok mixed [0, 1, 2, 3, 4, 5, 6, 7, 8, 9, 10, 11, 12, 13, 14, 15, 16, 17, 18, 19, 20] (by kernel_rfl) ?_; conv => whnf) | (refine (id : AW _ _ _ (.region 11 _ true) _ _ → _) ?_; refine AW.draw (id := 11) tab_ok mixed [0, 1, 2, 3, 4, 5, 6, 7, 8, 9, 10, 11, 12, 13, 14, 15, 16, 17, 18, 19, 20] (by kernel_rfl) ?_; conv => whnf) | ((first | refine AW.region tab_ok ?_ | refine AW.cond ?_ | refine AW.skip ?_ | refine AW.ret ?_ | refine AW.exit ?_); conv => whnf) | ((first | refine (c0).mono ?_ | refine (c1).mono ?_); rintro _ _ ⟨rfl, rfl⟩; conv => whnf) | ((first | refine And.intro (@rfl Val _) ?_ | refine And.intro (by decide) ?_ | refine cs (fun _ => ?_) (fun _ => ?_)) <;> conv => whnf)
  all_goals exact ⟨outb (by simp_all), rfl⟩
set_option maxRecDepth 10000 in
theorem rhold_two (w : Bool) (k : Int) (hk : k = 4 ∨ k = 5) (a0 a1 b0 b1 : Ty) (r0 r1 : Bool) (c0 : ACall Try.prog (rel w) [a0.val, b0.val] [] (fun o σ => o = .ret (.c (.d (.bool r0))) ∧ σ = [])) (c1 : ACall Try.prog (rel w) [a1.val, b1.val] [] (fun o σ => o = .ret (.c (.d (.bool r1))) ∧ σ = [])) :
    ACall Try.prog (rel w) [(Ty.node k [a0, a1]).val, (Ty.node k [b0, b1]).val] [] (fun o σ => o = .ret (.c (.d (.bool (r0 && r1)))) ∧ σ = []) := by
  obtain ⟨ka0, as0⟩ := a0
  obtain ⟨ka1, as1⟩ := a1
  obtain ⟨kb0, bs0⟩ := b0
  obtain ⟨kb1, bs1⟩ := b1
  cases w
  · refine (id : ACall Try.prog 77 _ _ _ → _) ?_
    replace c0 := (id c0 : ACall Try.prog 77 _ _ _)
    replace c1 := (id c1 : ACall Try.prog 77 _ _ _)
    rcases hk with rfl | rfl
    all_goals
      refine ACall.body tab_ok (ρ := 0) (N := 73) Try.func77 rfl rfl rfl rfl rfl ?_
      repeat' first | ((refine ⟨by simp [Ty.rows], fun row hrow => ?_⟩; simp [Ty.rows] at hrow; subst hrow; conv => whnf)) | refine AW.seq ?_ | refine AW.block ?_ | (refine (id : AW _ _ _ (.region 8 _ true) _ _ → _) ?_; refine AW.draw (id := 8) tab_ok mixed [0, 1, 2, 3, 4, 5, 6, 7, 8, 9, 10, 11, 12, 13, 14, 15, 16, 17, 18, 19, 20] (by kernel_rfl) ?_; conv => whnf) | (refine (id : AW _ _ _ (.region 9 _ true) _ _ → _) ?_; refine AW.draw (id := 9) tab_ok mixed [0, 1, 2, 3, 4, 5, 6, 7, 8, 9, 10, 11, 12, 13, 14, 15, 16, 17, 18, 19, 20] (by kernel_rfl) ?_; conv => whnf) | ((first | refine AW.region tab_ok ?_ | refine AW.cond ?_ | refine AW.skip ?_ | refine AW.ret ?_ | refine AW.exit ?_); conv => whnf) | ((first | refine (c0).mono ?_ | refine (c1).mono ?_); rintro _ _ ⟨rfl, rfl⟩; conv => whnf) | ((first | refine And.intro (@rfl Val _) ?_ | refine And.intro (by decide) ?_ | refine cs (fun _ => ?_) (fun _ => ?_)) <;> conv => whnf)
      all_goals exact ⟨outb (by simp_all), rfl⟩
  · refine (id : ACall Try.prog 78 _ _ _ → _) ?_
    replace c0 := (id c0 : ACall Try.prog 78 _ _ _)
    replace c1 := (id c1 : ACall Try.prog 78 _ _ _)
    rcases hk with rfl | rfl
    all_goals
      refine ACall.body tab_ok (ρ := 0) (N := 76) Try.func78 rfl rfl rfl rfl rfl ?_
      repeat' first | ((refine ⟨by simp [Ty.rows], fun row hrow => ?_⟩; simp [Ty.rows] at hrow; subst hrow; conv => whnf)) | refine AW.seq ?_ | refine AW.block ?_ | (refine (id : AW _ _ _ (.region 4 _ true) _ _ → _) ?_; refine AW.draw (id := 4) tab_ok mixed [0, 1, 2, 3, 4] (by kernel_rfl) ?_; conv => whnf) | (refine (id : AW _ _ _ (.region 10 _ true) _ _ → _) ?_; refine AW.draw (id := 10) tab_ok mixed [0, 1, 2, 3, 4, 5, 6, 7, 8, 9, 10, 11, 12, 13, 14, 15, 16, 17, 18, 19, 20] (by kernel_rfl) ?_; conv => whnf) | (refine (id : AW _ _ _ (.region 11 _ true) _ _ → _) ?_; refine AW.draw (id := 11) tab_ok mixed [0, 1, 2, 3, 4, 5, 6, 7, 8, 9, 10, 11, 12, 13, 14, 15, 16, 17, 18, 19, 20] (by kernel_rfl) ?_; conv => whnf) | ((first | refine AW.region tab_ok ?_ | refine AW.cond ?_ | refine AW.skip ?_ | refine AW.ret ?_ | refine AW.exit ?_); conv => whnf) | ((first | refine (c0).mono ?_ | refine (c1).mono ?_); rintro _ _ ⟨rfl, rfl⟩; conv => whnf) | ((first | refine And.intro (@rfl Val _) ?_ | refine And.intro (by decide) ?_ | refine cs (fun _ => ?_) (fun _ => ?_)) <;> conv => whnf)
      all_goals exact ⟨outb (by simp_all), rfl⟩
set_option maxRecDepth 10000 in
theorem rhold_zz (w : Bool) : ACall Try.prog (rel w) [(Ty.node 0 []).val, (Ty.node 0 []).val] [] (fun o σ => o = .ret (.c (.d (.bool true))) ∧ σ = []) := by
  cases w
  · refine (id : ACall Try.prog 77 _ _ _ → _) ?_
    refine ACall.body tab_ok (ρ := 0) (N := 73) Try.func77 rfl rfl rfl rfl rfl ?_
    repeat' first | refine AW.seq ?_ | refine AW.block ?_ | (refine (id : AW _ _ _ (.region 8 _ true) _ _ → _) ?_; refine AW.draw (id := 8) tab_ok mixed [0, 1, 2, 3, 4, 5, 6, 7, 8, 9, 10, 11, 12, 13, 14, 15, 16, 17, 18, 19, 20] (by kernel_rfl) ?_; conv => whnf) | (refine (id : AW _ _ _ (.region 9 _ true) _ _ → _) ?_; refine AW.draw (id := 9) tab_ok mixed [0, 1, 2, 3, 4, 5, 6, 7, 8, 9, 10, 11, 12, 13, 14, 15, 16, 17, 18, 19, 20] (by kernel_rfl) ?_; conv => whnf) | ((first | refine AW.region tab_ok ?_ | refine AW.cond ?_ | refine AW.skip ?_ | refine AW.ret ?_ | refine AW.exit ?_); conv => whnf) | ((first | refine And.intro (@rfl Val _) ?_ | refine And.intro (by decide) ?_ | refine cs (fun _ => ?_) (fun _ => ?_)) <;> conv => whnf)
    exact ⟨rfl, rfl⟩
  · refine (id : ACall Try.prog 78 _ _ _ → _) ?_
    refine ACall.body tab_ok (ρ := 0) (N := 76) Try.func78 rfl rfl rfl rfl rfl ?_
    repeat' first | refine AW.seq ?_ | refine AW.block ?_ | (refine (id : AW _ _ _ (.region 4 _ true) _ _ → _) ?_; refine AW.draw (id := 4) tab_ok mixed [0, 1, 2, 3, 4] (by kernel_rfl) ?_; conv => whnf) | (refine (id : AW _ _ _ (.region 10 _ true) _ _ → _) ?_; refine AW.draw (id := 10) tab_ok mixed [0, 1, 2, 3, 4, 5, 6, 7, 8, 9, 10, 11, 12, 13, 14, 15, 16, 17, 18, 19, 20] (by kernel_rfl) ?_; conv => whnf) | (refine (id : AW _ _ _ (.region 11 _ true) _ _ → _) ?_; refine AW.draw (id := 11) tab_ok mixed [0, 1, 2, 3, 4, 5, 6, 7, 8, 9, 10, 11, 12, 13, 14, 15, 16, 17, 18, 19, 20] (by kernel_rfl) ?_; conv => whnf) | ((first | refine AW.region tab_ok ?_ | refine AW.cond ?_ | refine AW.skip ?_ | refine AW.ret ?_ | refine AW.exit ?_); conv => whnf) | ((first | refine And.intro (@rfl Val _) ?_ | refine And.intro (by decide) ?_ | refine cs (fun _ => ?_) (fun _ => ?_)) <;> conv => whnf)
    exact ⟨rfl, rfl⟩
set_option maxRecDepth 10000 in
theorem rhold_zk (w : Bool) (k' : Int) (ks' : List Ty) (hk : k' ≠ 0) : ACall Try.prog (rel w) [(Ty.node 0 []).val, (Ty.node k' ks').val] [] (fun o σ => o = .ret (.c (.d (.bool w))) ∧ σ = []) := by
  cases w
  · refine (id : ACall Try.prog 77 _ _ _ → _) ?_
    refine ACall.body tab_ok (ρ := 0) (N := 73) Try.func77 rfl rfl rfl rfl rfl ?_
    repeat' first | refine AW.seq ?_ | refine AW.block ?_ | (refine (id : AW _ _ _ (.region 8 _ true) _ _ → _) ?_; refine AW.draw (id := 8) tab_ok mixed [0, 1, 2, 3, 4, 5, 6, 7, 8, 9, 10, 11, 12, 13, 14, 15, 16, 17, 18, 19, 20] (by kernel_rfl) ?_; conv => whnf) | (refine (id : AW _ _ _ (.region 9 _ true) _ _ → _) ?_; refine AW.draw (id := 9) tab_ok mixed [0, 1, 2, 3, 4, 5, 6, 7, 8, 9, 10, 11, 12, 13, 14, 15, 16, 17, 18, 19, 20] (by kernel_rfl) ?_; conv => whnf) | ((first | refine AW.region tab_ok ?_ | refine AW.cond ?_ | refine AW.skip ?_ | refine AW.ret ?_ | refine AW.exit ?_); conv => whnf) | ((first | refine And.intro (@rfl Val _) ?_ | refine And.intro (by decide) ?_ | refine cs (fun _ => ?_) (fun _ => ?_)) <;> conv => whnf)
    all_goals first | exact ⟨rfl, rfl⟩ | (exfalso; simp_all; done)
  · refine (id : ACall Try.prog 78 _ _ _ → _) ?_
    refine ACall.body tab_ok (ρ := 0) (N := 76) Try.func78 rfl rfl rfl rfl rfl ?_
    repeat' first | refine AW.seq ?_ | refine AW.block ?_ | (refine (id : AW _ _ _ (.region 4 _ true) _ _ → _) ?_; refine AW.draw (id := 4) tab_ok mixed [0, 1, 2, 3, 4] (by kernel_rfl) ?_; conv => whnf) | (refine (id : AW _ _ _ (.region 10 _ true) _ _ → _) ?_; refine AW.draw (id := 10) tab_ok mixed [0, 1, 2, 3, 4, 5, 6, 7, 8, 9, 10, 11, 12, 13, 14, 15, 16, 17, 18, 19, 20] (by kernel_rfl) ?_; conv => whnf) | (refine (id : AW _ _ _ (.region 11 _ true) _ _ → _) ?_; refine AW.draw (id := 11) tab_ok mixed [0, 1, 2, 3, 4, 5, 6, 7, 8, 9, 10, 11, 12, 13, 14, 15, 16, 17, 18, 19, 20] (by kernel_rfl) ?_; conv => whnf) | ((first | refine AW.region tab_ok ?_ | refine AW.cond ?_ | refine AW.skip ?_ | refine AW.ret ?_ | refine AW.exit ?_); conv => whnf) | ((first | refine And.intro (@rfl Val _) ?_ | refine And.intro (by decide) ?_ | refine cs (fun _ => ?_) (fun _ => ?_)) <;> conv => whnf)
    all_goals first | exact ⟨rfl, rfl⟩ | (exfalso; simp_all; done)
set_option maxRecDepth 10000 in
theorem rpos_any (a : Ty) : ACall Try.prog 77 [a.val, (Ty.node 0 []).val] [] (fun o σ => o = .ret (.c (.d (.bool true))) ∧ σ = []) := by
  obtain ⟨k, ks⟩ := a
  refine ACall.body tab_ok (ρ := 0) (N := 73) Try.func77 rfl rfl rfl rfl rfl ?_
  repeat' first | refine AW.seq ?_ | refine AW.block ?_ | (refine (id : AW _ _ _ (.region 8 _ true) _ _ → _) ?_; refine AW.draw (id := 8) tab_ok mixed [0, 1, 2, 3, 4, 5, 6, 7, 8, 9, 10, 11, 12, 13, 14, 15, 16, 17, 18, 19, 20] (by kernel_rfl) ?_; conv => whnf) | (refine (id : AW _ _ _ (.region 9 _ true) _ _ → _) ?_; refine AW.draw (id := 9) tab_ok mixed [0, 1, 2, 3, 4, 5, 6, 7, 8, 9, 10, 11, 12, 13, 14, 15, 16, 17, 18, 19, 20] (by kernel_rfl) ?_; conv => whnf) | ((first | refine AW.region tab_ok ?_ | refine AW.cond ?_ | refine AW.skip ?_ | refine AW.ret ?_ | refine AW.exit ?_); conv => whnf) | ((first | refine And.intro (@rfl Val _) ?_ | refine And.intro (by decide) ?_ | refine cs (fun _ => ?_) (fun _ => ?_)) <;> conv => whnf)
  all_goals first | exact ⟨rfl, rfl⟩ | (exfalso; simp_all; done)
set_option maxRecDepth 10000 in
theorem rneg_any (a : Ty) (ha : tcheck a = 0) (hk : a ≠ .node 0 []) (r : Bool) (c : ACall Try.prog 78 [a.val, (groundF a).val] [] (fun o σ => o = .ret (.c (.d (.bool r))) ∧ σ = [])) :
    ACall Try.prog 78 [a.val, (Ty.node 0 []).val] [] (fun o σ => o = .ret (.c (.d (.bool r))) ∧ σ = []) := by
  have hr := tcheck_right ha
  have c1 := rground_call a ha hk
  generalize groundF a = g at *
  obtain ⟨kg, gs⟩ := g
  obtain ⟨k, ks⟩ := a
  have hk0 : k ≠ 0 := fun e => by
    subst e
    exact hk (by rw [right_zero hr])
  clear ha hr hk
  refine ACall.body tab_ok (ρ := 0) (N := 76) Try.func78 rfl rfl rfl rfl rfl ?_
  repeat' first | refine AW.seq ?_ | refine AW.block ?_ | (refine (id : AW _ _ _ (.region 4 _ true) _ _ → _) ?_; refine AW.draw (id := 4) tab_ok mixed [0, 1, 2, 3, 4] (by kernel_rfl) ?_; conv => whnf) | (refine (id : AW _ _ _ (.region 10 _ true) _ _ → _) ?_; refine AW.draw (id := 10) tab_ok mixed [0, 1, 2, 3, 4, 5, 6, 7, 8, 9, 10, 11, 12, 13, 14, 15, 16, 17, 18, 19, 20] (by kernel_rfl) ?_; conv => whnf) | (refine (id : AW _ _ _ (.region 11 _ true) _ _ → _) ?_; refine AW.draw (id := 11) tab_ok mixed [0, 1, 2, 3, 4, 5, 6, 7, 8, 9, 10, 11, 12, 13, 14, 15, 16, 17, 18, 19, 20] (by kernel_rfl) ?_; conv => whnf) | ((first | refine AW.region tab_ok ?_ | refine AW.cond ?_ | refine AW.skip ?_ | refine AW.ret ?_ | refine AW.exit ?_); conv => whnf) | ((first | refine (c1).mono ?_ | refine (c).mono ?_); rintro _ _ ⟨rfl, rfl⟩; conv => whnf) | ((first | refine And.intro (@rfl Val _) ?_ | refine And.intro (by decide) ?_ | refine cs (fun _ => ?_) (fun _ => ?_)) <;> conv => whnf)
  all_goals first | exact ⟨rfl, rfl⟩ | (clear c1 c; exfalso; simp_all; done)
set_option maxRecDepth 10000 in
theorem rhold_unlike (w : Bool) (k k' : Int) (ks ks' : List Ty) (h1 : k ≠ 0) (h2 : k' ≠ 0) (h3 : k ≠ k') : ACall Try.prog (rel w) [(Ty.node k ks).val, (Ty.node k' ks').val] [] (fun o σ => o = .ret (.c (.d (.bool false))) ∧ σ = []) := by
  have b1 : (k == 0) = false := by simpa using h1
  have b2 : (k' == 0) = false := by simpa using h2
  have b3 : (k == k') = false := by simpa using h3
  cases w
  · refine (id : ACall Try.prog 77 _ _ _ → _) ?_
    refine ACall.body tab_ok (ρ := 0) (N := 73) Try.func77 rfl rfl rfl rfl rfl ?_
    repeat' first | refine AW.seq ?_ | refine AW.block ?_ | (refine (id : AW _ _ _ (.region 8 _ true) _ _ → _) ?_; refine AW.draw (id := 8) tab_ok mixed [0, 1, 2, 3, 4, 5, 6, 7, 8, 9, 10, 11, 12, 13, 14, 15, 16, 17, 18, 19, 20] (by kernel_rfl) ?_; conv => whnf) | (refine (id : AW _ _ _ (.region 9 _ true) _ _ → _) ?_; refine AW.draw (id := 9) tab_ok mixed [0, 1, 2, 3, 4, 5, 6, 7, 8, 9, 10, 11, 12, 13, 14, 15, 16, 17, 18, 19, 20] (by kernel_rfl) ?_; conv => whnf) | ((first | refine AW.region tab_ok ?_ | refine AW.cond ?_ | refine AW.skip ?_ | refine AW.ret ?_ | refine AW.exit ?_); conv => whnf) | ((first | refine And.intro (@rfl Val _) ?_ | refine And.intro (by decide) ?_ | refine cs (fun _ => ?_) (fun _ => ?_)) <;> conv => whnf)
    all_goals first | exact ⟨rfl, rfl⟩ | (exfalso; simp_all; done)
  · refine (id : ACall Try.prog 78 _ _ _ → _) ?_
    refine ACall.body tab_ok (ρ := 0) (N := 76) Try.func78 rfl rfl rfl rfl rfl ?_
    repeat' first | refine AW.seq ?_ | refine AW.block ?_ | (refine (id : AW _ _ _ (.region 4 _ true) _ _ → _) ?_; refine AW.draw (id := 4) tab_ok mixed [0, 1, 2, 3, 4] (by kernel_rfl) ?_; conv => whnf) | (refine (id : AW _ _ _ (.region 10 _ true) _ _ → _) ?_; refine AW.draw (id := 10) tab_ok mixed [0, 1, 2, 3, 4, 5, 6, 7, 8, 9, 10, 11, 12, 13, 14, 15, 16, 17, 18, 19, 20] (by kernel_rfl) ?_; conv => whnf) | (refine (id : AW _ _ _ (.region 11 _ true) _ _ → _) ?_; refine AW.draw (id := 11) tab_ok mixed [0, 1, 2, 3, 4, 5, 6, 7, 8, 9, 10, 11, 12, 13, 14, 15, 16, 17, 18, 19, 20] (by kernel_rfl) ?_; conv => whnf) | ((first | refine AW.region tab_ok ?_ | refine AW.cond ?_ | refine AW.skip ?_ | refine AW.ret ?_ | refine AW.exit ?_); conv => whnf) | ((first | refine And.intro (@rfl Val _) ?_ | refine And.intro (by decide) ?_ | refine cs (fun _ => ?_) (fun _ => ?_)) <;> conv => whnf)
    all_goals first | exact ⟨rfl, rfl⟩ | (exfalso; simp_all; done)
theorem rhold_call : ∀ (n : Nat) (w : Bool) (a b : Ty), nodes a + nodes b ≤ n → tcheck a = 0 → tcheck b = 0 → ACall Try.prog (rel w) [a.val, b.val] [] (fun o σ => o = .ret (.c (.d (.bool (holdF n w a b)))) ∧ σ = []) := by
  intro n
  induction n with
  | zero => intro w a b h; have := nodes_pos a; omega
  | succ n ih =>
  rintro w ⟨k, ks⟩ ⟨k', ks'⟩ hn ha hb
  have ra := tcheck_right ha
  have rb := tcheck_right hb
  by_cases h0 : k = 0
  · subst h0
    obtain rfl := right_zero ra
    by_cases h1 : k' = 0
    · subst h1
      obtain rfl := right_zero rb
      have := rhold_zz w
      simpa [holdF] using this
    · have := rhold_zk w k' ks' h1
      simpa [holdF, h1] using this
  · have ne : ∀ {ks : List Ty}, (Ty.node k ks) ≠ .node 0 [] := fun {ks} e => by cases e; exact h0 rfl
    by_cases h1 : k' = 0
    · subst h1
      obtain rfl := right_zero rb
      cases w with
      | false =>
        have := rpos_any (.node k ks)
        simpa [holdF, h0, rel] using this
      | true =>
        rcases parts_two ra h0 with ⟨rfl, hk⟩ | ⟨a0, a1, rfl, hk⟩
        · have := rneg_any _ ha ne true (rhold_leaf true k hk)
          simpa [rel, holdF, h0] using this
        · have n0 := nodes_mem [a0, a1] a0 (by simp)
          have n1 := nodes_mem [a0, a1] a1 (by simp)
          simp only [nodes, nodesL] at hn n0 n1
          have k0 := tcheck_kid ha (t := a0) (by simp)
          have k1 := tcheck_kid ha (t := a1) (by simp)
          have z := tcheck_zero
          have zn : nodes (.node 0 []) = 1 := by simp [nodes, nodesL]
          rcases hk with rfl | hk
          · have := rneg_any _ ha ne _ (rneg_fun a0 a1 (.node 0 []) (.node 0 []) _ _ (ih false (.node 0 []) a0 (by omega) z k0) (ih true a1 (.node 0 []) (by omega) k1 z))
            simpa [rel, holdF] using this
          · have := rneg_any _ ha ne _ (rhold_two true k hk a0 a1 (.node 0 []) (.node 0 []) _ _ (ih true a0 (.node 0 []) (by omega) k0 z) (ih true a1 (.node 0 []) (by omega) k1 z))
            have h3 : k ≠ 3 := by omega
            simpa [rel, holdF, h0, h3] using this
    · by_cases h2 : k = k'
      · subst h2
        have el := right_eq_len ra rb
        rcases parts_two ra h0 with ⟨rfl, hk⟩ | ⟨a0, a1, rfl, hk⟩
        · obtain rfl : ks' = [] := List.eq_nil_of_length_eq_zero (by simpa using el.symm)
          simpa [holdF, h0] using rhold_leaf w k hk
        · obtain ⟨b0, b1, rfl⟩ : ∃ b0 b1, ks' = [b0, b1] := by
            match ks', el with
            | [b0, b1], _ => exact ⟨b0, b1, rfl⟩
          simp only [nodes, nodesL] at hn
          have k0 := tcheck_kid ha (t := a0) (by simp)
          have k1 := tcheck_kid ha (t := a1) (by simp)
          have l0 := tcheck_kid hb (t := b0) (by simp)
          have l1 := tcheck_kid hb (t := b1) (by simp)
          rcases hk with rfl | hk
          · cases w with
            | false =>
              have := rpos_fun a0 a1 b0 b1 _ _ (ih true b0 a0 (by omega) l0 k0) (ih false a1 b1 (by omega) k1 l1)
              simpa [rel, holdF] using this
            | true =>
              have := rneg_fun a0 a1 b0 b1 _ _ (ih false b0 a0 (by omega) l0 k0) (ih true a1 b1 (by omega) k1 l1)
              simpa [rel, holdF] using this
          · have h3 : k ≠ 3 := by omega
            have := rhold_two w k hk a0 a1 b0 b1 _ _ (ih w a0 b0 (by omega) k0 l0) (ih w a1 b1 (by omega) k1 l1)
            simpa [holdF, h0, h3] using this
      · have := rhold_unlike w k k' ks ks' h0 h1 h2
        have e : holdF (n + 1) w (.node k ks) (.node k' ks') = false := by simp [holdF, h0, h1, h2]
        rw [e]
        exact this
set_option maxRecDepth 10000 in
theorem rright8_call (a b : Ty) : ACall Try.prog 76 [a.val, b.val] [] (fun o σ => o = .ret (.c (.d (.bool (decide (tcheck a = 0) && decide (tcheck b = 0))))) ∧ σ = []) := by
  have c1 := rcheck_call a
  have c2 := rcheck_call b
  generalize tcheck a = ca at *
  generalize tcheck b = cb at *
  obtain ⟨k, ks⟩ := a
  obtain ⟨k', ks'⟩ := b
  refine ACall.body tab_ok (ρ := 0) (N := 13) Try.func76 rfl rfl rfl rfl rfl ?_
  repeat' first | refine AW.seq ?_ | refine AW.block ?_ | ((first | refine AW.region tab_ok ?_ | refine AW.cond ?_ | refine AW.skip ?_ | refine AW.ret ?_ | refine AW.exit ?_); conv => whnf) | ((first | refine (c1).mono ?_ | refine (c2).mono ?_); rintro _ _ ⟨rfl, rfl⟩; conv => whnf) | ((first | refine And.intro (@rfl Val _) ?_ | refine And.intro (by decide) ?_ | refine cs (fun _ => ?_) (fun _ => ?_)) <;> conv => whnf)
  all_goals refine ⟨outb ?_, rfl⟩
  all_goals first | (simp_all; done) | (simp_all; rfl) | (simp_all [beq_eq_decide]; done)
set_option maxRecDepth 10000 in
theorem RPos_call (a b : Ty) : ACall Try.prog 49 [a.val, b.val] [] (fun o σ => o = .ret (.c (.d (.bool (belowS false a b)))) ∧ σ = []) := by
  have c1 := rright8_call a b
  have c3 := fun h1 h2 => (id (rhold_call (nodes a + nodes b) false a b (Nat.le_refl _) h1 h2) : ACall Try.prog 77 _ _ _)
  have e : belowS false a b = (decide (tcheck a = 0) && decide (tcheck b = 0) && holdF (nodes a + nodes b) false a b) := rfl
  rw [e]
  generalize tcheck a = ca at *
  generalize tcheck b = cb at *
  generalize holdF (nodes a + nodes b) false a b = hh at *
  clear e
  obtain ⟨k, ks⟩ := a
  obtain ⟨k', ks'⟩ := b
  by_cases h1 : ca = 0 ∧ cb = 0
  · obtain ⟨rfl, rfl⟩ := h1
    have c4 := c3 rfl rfl
    clear c3
    replace c1 : ACall Try.prog 76 [(Ty.node k ks).val, (Ty.node k' ks').val] [] (fun o σ => o = .ret (.c (.d (.bool true))) ∧ σ = []) := c1
    show ACall Try.prog 49 [(Ty.node k ks).val, (Ty.node k' ks').val] [] (fun o σ => o = .ret (.c (.d (.bool hh))) ∧ σ = [])
    refine ACall.body tab_ok (ρ := 0) (N := 13) Try.func49 rfl rfl rfl rfl rfl ?_
    repeat' first | refine AW.seq ?_ | refine AW.block ?_ | ((first | refine AW.region tab_ok ?_ | refine AW.cond ?_ | refine AW.skip ?_ | refine AW.ret ?_ | refine AW.exit ?_); conv => whnf) | ((first | refine (c1).mono ?_ | refine (c4).mono ?_); rintro _ _ ⟨rfl, rfl⟩; conv => whnf) | ((first | refine And.intro (@rfl Val _) ?_ | refine And.intro (by decide) ?_ | refine cs (fun _ => ?_) (fun _ => ?_)) <;> conv => whnf)
    all_goals exact ⟨rfl, rfl⟩
  · have e1 : (decide (ca = 0) && decide (cb = 0)) = false := by simpa using fun h => fun h2 => h1 ⟨h, h2⟩
    rw [e1] at c1 ⊢
    clear c3 h1 e1
    refine ACall.body tab_ok (ρ := 0) (N := 13) Try.func49 rfl rfl rfl rfl rfl ?_
    repeat' first | refine AW.seq ?_ | refine AW.block ?_ | ((first | refine AW.region tab_ok ?_ | refine AW.cond ?_ | refine AW.skip ?_ | refine AW.ret ?_ | refine AW.exit ?_); conv => whnf) | (refine (c1).mono ?_; rintro _ _ ⟨rfl, rfl⟩; conv => whnf) | ((first | refine And.intro (@rfl Val _) ?_ | refine And.intro (by decide) ?_ | refine cs (fun _ => ?_) (fun _ => ?_)) <;> conv => whnf)
    all_goals exact ⟨rfl, rfl⟩
set_option maxRecDepth 10000 in
theorem RNeg_call (a b : Ty) : ACall Try.prog 50 [a.val, b.val] [] (fun o σ => o = .ret (.c (.d (.bool (belowS true a b)))) ∧ σ = []) := by
  have c1 := rright8_call a b
  have c3 := fun h1 h2 => (id (rhold_call (nodes a + nodes b) true a b (Nat.le_refl _) h1 h2) : ACall Try.prog 78 _ _ _)
  have e : belowS true a b = (decide (tcheck a = 0) && decide (tcheck b = 0) && holdF (nodes a + nodes b) true a b) := rfl
  rw [e]
  generalize tcheck a = ca at *
  generalize tcheck b = cb at *
  generalize holdF (nodes a + nodes b) true a b = hh at *
  clear e
  obtain ⟨k, ks⟩ := a
  obtain ⟨k', ks'⟩ := b
  by_cases h1 : ca = 0 ∧ cb = 0
  · obtain ⟨rfl, rfl⟩ := h1
    have c4 := c3 rfl rfl
    clear c3
    replace c1 : ACall Try.prog 76 [(Ty.node k ks).val, (Ty.node k' ks').val] [] (fun o σ => o = .ret (.c (.d (.bool true))) ∧ σ = []) := c1
    show ACall Try.prog 50 [(Ty.node k ks).val, (Ty.node k' ks').val] [] (fun o σ => o = .ret (.c (.d (.bool hh))) ∧ σ = [])
    refine ACall.body tab_ok (ρ := 0) (N := 13) Try.func50 rfl rfl rfl rfl rfl ?_
    repeat' first | refine AW.seq ?_ | refine AW.block ?_ | ((first | refine AW.region tab_ok ?_ | refine AW.cond ?_ | refine AW.skip ?_ | refine AW.ret ?_ | refine AW.exit ?_); conv => whnf) | ((first | refine (c1).mono ?_ | refine (c4).mono ?_); rintro _ _ ⟨rfl, rfl⟩; conv => whnf) | ((first | refine And.intro (@rfl Val _) ?_ | refine And.intro (by decide) ?_ | refine cs (fun _ => ?_) (fun _ => ?_)) <;> conv => whnf)
    all_goals exact ⟨rfl, rfl⟩
  · have e1 : (decide (ca = 0) && decide (cb = 0)) = false := by simpa using fun h => fun h2 => h1 ⟨h, h2⟩
    rw [e1] at c1 ⊢
    clear c3 h1 e1
    refine ACall.body tab_ok (ρ := 0) (N := 13) Try.func50 rfl rfl rfl rfl rfl ?_
    repeat' first | refine AW.seq ?_ | refine AW.block ?_ | ((first | refine AW.region tab_ok ?_ | refine AW.cond ?_ | refine AW.skip ?_ | refine AW.ret ?_ | refine AW.exit ?_); conv => whnf) | (refine (c1).mono ?_; rintro _ _ ⟨rfl, rfl⟩; conv => whnf) | ((first | refine And.intro (@rfl Val _) ?_ | refine And.intro (by decide) ?_ | refine cs (fun _ => ?_) (fun _ => ?_)) <;> conv => whnf)
    all_goals exact ⟨rfl, rfl⟩
end Go.Proofs.Ytlboogackecjlaa.E
