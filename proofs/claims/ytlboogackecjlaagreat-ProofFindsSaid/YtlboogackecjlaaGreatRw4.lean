/- derive behind its loop, its result in blocks of its own. No conditions. -/
import Derived.Test.YtlboogackecjlaaGreatRw3
import Derived.Test.YtlboogackecjlaaGreatEngX3
set_option linter.unusedVariables false
set_option linter.unusedSimpArgs false
namespace Go.Proofs.YtlboogackecjlaaGreat.E
open Go
def oTRw4_19_14 : OT := (.op 0 (.op 1 (.op 2 (.op 3 (.op 4 (.op 5 (.op 6 (.op 7 (.op 8 (.op 9 (.op 10 (.op 12 (.alt (.op 11 (.alt (.op 13 (.op 14 (.alt (.op 15 (.alt (.op 16 (.op 17 (.op 18 (.op 19 .nil)))) (.op 17 (.alt (.op 16 (.op 18 (.op 19 .nil))) (.op 18 (.op 16 (.op 19 .nil))))))) (.alt (.op 16 (.alt (.op 15 (.op 17 (.op 18 (.op 19 .nil)))) (.op 17 (.op 15 (.op 18 (.op 19 .nil)))))) (.op 17 (.alt (.op 15 (.alt (.op 16 (.op 18 (.op 19 .nil))) (.op 18 (.op 16 (.op 19 .nil))))) (.op 16 (.op 15 (.op 18 (.op 19 .nil)))))))))) (.op 17 (.op 13 (.op 14 (.alt (.op 15 (.alt (.op 16 (.op 18 (.op 19 .nil))) (.op 18 (.op 16 (.op 19 .nil))))) (.op 16 (.op 15 (.op 18 (.op 19 .nil)))))))))) (.op 17 (.op 11 (.op 13 (.op 14 (.alt (.op 15 (.alt (.op 16 (.op 18 (.op 19 .nil))) (.op 18 (.op 16 (.op 19 .nil))))) (.op 16 (.op 15 (.op 18 (.op 19 .nil))))))))))))))))))))))

noncomputable def rest61w : Code := match Tryz.f19.body with
  | some (.seq _ (.seq _ (.seq _ (.seq _ (.seq _ c))))) => c
  | _ => .skip
set_option maxRecDepth 10000 in
set_option maxHeartbeats 4000000 in
theorem derive2_rest (k : Int) (hk : 0 ≤ k ∧ k ≤ 16) (name arg : ByteArray) (num tk : Int) (tks : List Ty) (uk : Int) (uks : List Ty) (label place : Int) (ks : List Tm) (l : List Bd) (L : List Pf) (hl : l.length ≤ 90000)
    (hn : (L.length : Int) = kidsK k) (hok : TyOk (if k = 0 then ((findB l name).getD unk, (findB l name).isSome) else ruleM k name (.node tk tks) (.node uk uks) (L.map Pf.ty)).1) :
    AW Tryz.prog tab 2 rest61w ⟨149, [(0, .c (.mp 0)), (1, .c (.d (.rp 9 ((Tm.node k name arg num tk tks uk uks label place ks).cellsR 9 9)))), (2, .c (.d (.sl 9 3 (bdsR 9 l)))), (3, .c (.d .nilp)), (8, .c (.ptr 1 0)), (10, .c (.ptr 2 0)), (11, .c (.own 3 (Ty.rowsR 2 (L.map Pf.ty)).length))],
      [.mp (.int .i8) 16 rulesM, .var [.d (.str ⟨#[]⟩), .d (.int .i8 0), .d .nils, .d .nils], .var [.d (.str (ruleN k)), .d (.int .i8 0), .d .nils, .own 4 (Pf.rowsR 2 L).length], .row 25 2 (Ty.rowsR 2 (L.map Pf.ty)), .row 28 4 (Pf.rowsR 2 L)], []⟩
      (afin tab 2 19 Tryz.f19.results.toList ([.mp (.int .i8) 16 rulesM] : List AObj).length (fun o σ => o = .ret (.tup [(drvF k name (.node tk tks) (.node uk uks) l none (L, true)).1.valR 2, .c (.d (.bool (drvF k name (.node tk tks) (.node uk uks) l none (L, true)).2))]) ∧ σ = [.mp (.int .i8) 16 rulesM])) := by
  simp only [drvF, Bool.true_eq_false, if_false]
  rcases (by omega : k = 0 ∨ k = 1 ∨ k = 2 ∨ k = 3 ∨ k = 4 ∨ k = 5 ∨ k = 6 ∨ k = 7 ∨ k = 8 ∨ k = 9 ∨ k = 10 ∨ k = 11 ∨ k = 12 ∨ k = 13 ∨ k = 14 ∨ k = 15 ∨ k = 16) with rfl | rfl | rfl | rfl | rfl | rfl | rfl | rfl | rfl | rfl | rfl | rfl | rfl | rfl | rfl | rfl | rfl
  · have c1 := find_any l name (by omega)
    simp only [if_true] at hok ⊢
    have c2 := whole2_call _ hok
    generalize (findB l name).getD unk = y at *
    generalize (findB l name).isSome = b at *
    obtain ⟨yk, yks⟩ := y
    repeat' first | ((refine And.intro (rfl : (_ : Nat) = _) ?_; conv => whnf)) | refine AW.seq ?_ | refine AW.block ?_ | (refine (id : AW _ _ _ (.region 2 _ true) _ _ → _) ?_; refine AW.draw (id := 2) tab_ok mixed [0, 1, 2, 3, 4, 5, 6, 7, 8, 9, 10, 11, 12, 13, 14, 15, 16, 17, 18, 19, 20, 21, 22, 23] (by kernel_rfl) ?_; conv => whnf) | (refine (id : AW _ _ _ (.region 14 _ true) _ _ → _) ?_; refine AW.drawT (id := 14) tab_ok mixed [0, 1, 2, 3, 4, 5, 6, 7, 8, 9, 10, 12, 11, 13, 14, 15, 16, 17, 18, 19] oTRw4_19_14 (by kernel_rfl) ?_; conv => whnf) | (refine (id : AW _ _ _ (.region 25 _ true) _ _ → _) ?_; refine AW.draw (id := 25) tab_ok mixed [0, 1, 2, 3, 4, 5, 6, 7, 8, 9, 10, 11, 12, 13, 14, 15, 16] (by kernel_rfl) ?_; conv => whnf) | (refine Fork.mk ?_ ?_ <;> conv => whnf) | ((first | refine AW.region tab_ok ?_ | refine AW.cond ?_ | refine AW.skip ?_ | refine AW.ret ?_ | refine AW.exit ?_); conv => whnf) | ((first | refine (c1).mono ?_ | refine (c2).mono ?_); rintro _ _ ⟨rfl, rfl⟩; conv => whnf) | ((first | refine And.intro (@rfl Val _) ?_ | refine And.intro (by decide) ?_ | refine cs (fun _ => ?_) (fun _ => ?_)) <;> conv => whnf)
    all_goals first | exact ⟨rfl, rfl⟩ | (rename_i g; have g : _ = true := g; cases g; exact ⟨rfl, rfl⟩) | (rename_i g; have g : _ = false := g; cases g; exact ⟨rfl, rfl⟩)
  · obtain rfl : L = [] := by simpa [kidsK] using hn
    have c1 : ACall Tryz.prog 74 [.c (.d (.rp 0 (Tm.node 1 name arg num tk tks uk uks label place ks).cells)), .c (.d (.sl 0 2 (Ty.rows []))), .c (.d (.rp 0 [.int .i8 1]))] [] (fun o σ => o = .ret (.tup [(ruleM 1 name (.node tk tks) (.node uk uks) []).1.val, .c (.d (.bool (ruleM 1 name (.node tk tks) (.node uk uks) []).2))]) ∧ σ = []) := simple1_call 1 _
    have c1 := rule_any (by first | exact .nil | exact .cons (.c _ _ (RtC.rp (.cons (.int _ _) .nil))) .nil | exact .cons (.c _ _ (RtC.rp (.cons (.bool _) .nil))) .nil) c1
    rw [if_neg (by decide)] at hok ⊢
    simp only [List.map_cons, List.map_nil, Pf.ty] at hok ⊢
    have c2 := whole2_call _ hok
    generalize ruleM 1 name (.node tk tks) (.node uk uks) [] = y at *
    obtain ⟨⟨yk, yks⟩, yb⟩ := y
    repeat' first | ((refine mlook_case ?_; conv => whnf)) | ((refine And.intro (rfl : (_ : Nat) = _) ?_; conv => whnf)) | refine AW.seq ?_ | refine AW.block ?_ | (refine (id : AW _ _ _ (.region 2 _ true) _ _ → _) ?_; refine AW.draw (id := 2) tab_ok mixed [0, 1, 2, 3, 4, 5, 6, 7, 8, 9, 10, 11, 12, 13, 14, 15, 16, 17, 18, 19, 20, 21, 22, 23] (by kernel_rfl) ?_; conv => whnf) | (refine (id : AW _ _ _ (.region 14 _ true) _ _ → _) ?_; refine AW.drawT (id := 14) tab_ok mixed [0, 1, 2, 3, 4, 5, 6, 7, 8, 9, 10, 12, 11, 13, 14, 15, 16, 17, 18, 19] oTRw4_19_14 (by kernel_rfl) ?_; conv => whnf) | (refine (id : AW _ _ _ (.region 25 _ true) _ _ → _) ?_; refine AW.draw (id := 25) tab_ok mixed [0, 1, 2, 3, 4, 5, 6, 7, 8, 9, 10, 11, 12, 13, 14, 15, 16] (by kernel_rfl) ?_; conv => whnf) | (refine Fork.mk ?_ ?_ <;> conv => whnf) | ((first | refine AW.region tab_ok ?_ | refine AW.cond ?_ | refine AW.skip ?_ | refine AW.ret ?_ | refine AW.exit ?_); conv => whnf) | ((first | refine (c1).mono ?_ | refine (c2).mono ?_); rintro _ _ ⟨rfl, rfl⟩; conv => whnf) | ((first | refine And.intro (@rfl Val _) ?_ | refine And.intro (by decide) ?_ | refine cs (fun _ => ?_) (fun _ => ?_)) <;> conv => whnf)
    all_goals first | exact ⟨rfl, rfl⟩ | (rename_i g; have g : _ = true := g; cases g; exact ⟨rfl, rfl⟩) | (rename_i g; have g : _ = false := g; cases g; exact ⟨rfl, rfl⟩)
  · obtain rfl : L = [] := by simpa [kidsK] using hn
    have c1 : ACall Tryz.prog 74 [.c (.d (.rp 0 (Tm.node 2 name arg num tk tks uk uks label place ks).cells)), .c (.d (.sl 0 2 (Ty.rows []))), .c (.d (.rp 0 [.int .i8 2]))] [] (fun o σ => o = .ret (.tup [(ruleM 2 name (.node tk tks) (.node uk uks) []).1.val, .c (.d (.bool (ruleM 2 name (.node tk tks) (.node uk uks) []).2))]) ∧ σ = []) := simple1_call 2 _
    have c1 := rule_any (by first | exact .nil | exact .cons (.c _ _ (RtC.rp (.cons (.int _ _) .nil))) .nil | exact .cons (.c _ _ (RtC.rp (.cons (.bool _) .nil))) .nil) c1
    rw [if_neg (by decide)] at hok ⊢
    simp only [List.map_cons, List.map_nil, Pf.ty] at hok ⊢
    have c2 := whole2_call _ hok
    generalize ruleM 2 name (.node tk tks) (.node uk uks) [] = y at *
    obtain ⟨⟨yk, yks⟩, yb⟩ := y
    repeat' first | ((refine mlook_case ?_; conv => whnf)) | ((refine And.intro (rfl : (_ : Nat) = _) ?_; conv => whnf)) | refine AW.seq ?_ | refine AW.block ?_ | (refine (id : AW _ _ _ (.region 2 _ true) _ _ → _) ?_; refine AW.draw (id := 2) tab_ok mixed [0, 1, 2, 3, 4, 5, 6, 7, 8, 9, 10, 11, 12, 13, 14, 15, 16, 17, 18, 19, 20, 21, 22, 23] (by kernel_rfl) ?_; conv => whnf) | (refine (id : AW _ _ _ (.region 14 _ true) _ _ → _) ?_; refine AW.drawT (id := 14) tab_ok mixed [0, 1, 2, 3, 4, 5, 6, 7, 8, 9, 10, 12, 11, 13, 14, 15, 16, 17, 18, 19] oTRw4_19_14 (by kernel_rfl) ?_; conv => whnf) | (refine (id : AW _ _ _ (.region 25 _ true) _ _ → _) ?_; refine AW.draw (id := 25) tab_ok mixed [0, 1, 2, 3, 4, 5, 6, 7, 8, 9, 10, 11, 12, 13, 14, 15, 16] (by kernel_rfl) ?_; conv => whnf) | (refine Fork.mk ?_ ?_ <;> conv => whnf) | ((first | refine AW.region tab_ok ?_ | refine AW.cond ?_ | refine AW.skip ?_ | refine AW.ret ?_ | refine AW.exit ?_); conv => whnf) | ((first | refine (c1).mono ?_ | refine (c2).mono ?_); rintro _ _ ⟨rfl, rfl⟩; conv => whnf) | ((first | refine And.intro (@rfl Val _) ?_ | refine And.intro (by decide) ?_ | refine cs (fun _ => ?_) (fun _ => ?_)) <;> conv => whnf)
    all_goals first | exact ⟨rfl, rfl⟩ | (rename_i g; have g : _ = true := g; cases g; exact ⟨rfl, rfl⟩) | (rename_i g; have g : _ = false := g; cases g; exact ⟨rfl, rfl⟩)
  · obtain rfl : L = [] := by simpa [kidsK] using hn
    have c1 : ACall Tryz.prog 74 [.c (.d (.rp 0 (Tm.node 3 name arg num tk tks uk uks label place ks).cells)), .c (.d (.sl 0 2 (Ty.rows []))), .c (.d (.rp 0 [.int .i8 2]))] [] (fun o σ => o = .ret (.tup [(ruleM 3 name (.node tk tks) (.node uk uks) []).1.val, .c (.d (.bool (ruleM 3 name (.node tk tks) (.node uk uks) []).2))]) ∧ σ = []) := simple1_call 2 _
    have c1 := rule_any (by first | exact .nil | exact .cons (.c _ _ (RtC.rp (.cons (.int _ _) .nil))) .nil | exact .cons (.c _ _ (RtC.rp (.cons (.bool _) .nil))) .nil) c1
    rw [if_neg (by decide)] at hok ⊢
    simp only [List.map_cons, List.map_nil, Pf.ty] at hok ⊢
    have c2 := whole2_call _ hok
    generalize ruleM 3 name (.node tk tks) (.node uk uks) [] = y at *
    obtain ⟨⟨yk, yks⟩, yb⟩ := y
    repeat' first | ((refine mlook_case ?_; conv => whnf)) | ((refine And.intro (rfl : (_ : Nat) = _) ?_; conv => whnf)) | refine AW.seq ?_ | refine AW.block ?_ | (refine (id : AW _ _ _ (.region 2 _ true) _ _ → _) ?_; refine AW.draw (id := 2) tab_ok mixed [0, 1, 2, 3, 4, 5, 6, 7, 8, 9, 10, 11, 12, 13, 14, 15, 16, 17, 18, 19, 20, 21, 22, 23] (by kernel_rfl) ?_; conv => whnf) | (refine (id : AW _ _ _ (.region 14 _ true) _ _ → _) ?_; refine AW.drawT (id := 14) tab_ok mixed [0, 1, 2, 3, 4, 5, 6, 7, 8, 9, 10, 12, 11, 13, 14, 15, 16, 17, 18, 19] oTRw4_19_14 (by kernel_rfl) ?_; conv => whnf) | (refine (id : AW _ _ _ (.region 25 _ true) _ _ → _) ?_; refine AW.draw (id := 25) tab_ok mixed [0, 1, 2, 3, 4, 5, 6, 7, 8, 9, 10, 11, 12, 13, 14, 15, 16] (by kernel_rfl) ?_; conv => whnf) | (refine Fork.mk ?_ ?_ <;> conv => whnf) | ((first | refine AW.region tab_ok ?_ | refine AW.cond ?_ | refine AW.skip ?_ | refine AW.ret ?_ | refine AW.exit ?_); conv => whnf) | ((first | refine (c1).mono ?_ | refine (c2).mono ?_); rintro _ _ ⟨rfl, rfl⟩; conv => whnf) | ((first | refine And.intro (@rfl Val _) ?_ | refine And.intro (by decide) ?_ | refine cs (fun _ => ?_) (fun _ => ?_)) <;> conv => whnf)
    all_goals first | exact ⟨rfl, rfl⟩ | (rename_i g; have g : _ = true := g; cases g; exact ⟨rfl, rfl⟩) | (rename_i g; have g : _ = false := g; cases g; exact ⟨rfl, rfl⟩)
  · obtain ⟨qa, rfl⟩ : ∃ qa, L = [qa] := by
      have : L.length = 1 := by simp [kidsK] at hn; omega
      match L, this with
      | [qa], _ => exact ⟨qa, rfl⟩
    obtain ⟨ra, a, zqa⟩ := qa
    have c1 : ACall Tryz.prog 41 [.c (.d (.rp 0 (Tm.node 4 name arg num tk tks uk uks label place ks).cells)), .c (.d (.sl 0 2 (Ty.rows [a])))] [] (fun o σ => o = .ret (.tup [(ruleM 4 name (.node tk tks) (.node uk uks) [a]).1.val, .c (.d (.bool (ruleM 4 name (.node tk tks) (.node uk uks) [a]).2))]) ∧ σ = []) := tab1_call 4 name arg num tk tks uk uks label place ks a
    have c1 := rule_any (by first | exact .nil | exact .cons (.c _ _ (RtC.rp (.cons (.int _ _) .nil))) .nil | exact .cons (.c _ _ (RtC.rp (.cons (.bool _) .nil))) .nil) c1
    rw [if_neg (by decide)] at hok ⊢
    simp only [List.map_cons, List.map_nil, Pf.ty] at hok ⊢
    have c2 := whole2_call _ hok
    generalize ruleM 4 name (.node tk tks) (.node uk uks) [a] = y at *
    obtain ⟨⟨yk, yks⟩, yb⟩ := y
    obtain ⟨ka, zas⟩ := a
    repeat' first | ((refine mlook_case ?_; conv => whnf)) | ((refine And.intro (rfl : (_ : Nat) = _) ?_; conv => whnf)) | refine AW.seq ?_ | refine AW.block ?_ | (refine (id : AW _ _ _ (.region 2 _ true) _ _ → _) ?_; refine AW.draw (id := 2) tab_ok mixed [0, 1, 2, 3, 4, 5, 6, 7, 8, 9, 10, 11, 12, 13, 14, 15, 16, 17, 18, 19, 20, 21, 22, 23] (by kernel_rfl) ?_; conv => whnf) | (refine (id : AW _ _ _ (.region 14 _ true) _ _ → _) ?_; refine AW.drawT (id := 14) tab_ok mixed [0, 1, 2, 3, 4, 5, 6, 7, 8, 9, 10, 12, 11, 13, 14, 15, 16, 17, 18, 19] oTRw4_19_14 (by kernel_rfl) ?_; conv => whnf) | (refine (id : AW _ _ _ (.region 25 _ true) _ _ → _) ?_; refine AW.draw (id := 25) tab_ok mixed [0, 1, 2, 3, 4, 5, 6, 7, 8, 9, 10, 11, 12, 13, 14, 15, 16] (by kernel_rfl) ?_; conv => whnf) | (refine Fork.mk ?_ ?_ <;> conv => whnf) | ((first | refine AW.region tab_ok ?_ | refine AW.cond ?_ | refine AW.skip ?_ | refine AW.ret ?_ | refine AW.exit ?_); conv => whnf) | ((first | refine (c1).mono ?_ | refine (c2).mono ?_); rintro _ _ ⟨rfl, rfl⟩; conv => whnf) | ((first | refine And.intro (@rfl Val _) ?_ | refine And.intro (by decide) ?_ | refine cs (fun _ => ?_) (fun _ => ?_)) <;> conv => whnf)
    all_goals first | exact ⟨rfl, rfl⟩ | (rename_i g; have g : _ = true := g; cases g; exact ⟨rfl, rfl⟩) | (rename_i g; have g : _ = false := g; cases g; exact ⟨rfl, rfl⟩)
  · obtain ⟨qa, rfl⟩ : ∃ qa, L = [qa] := by
      have : L.length = 1 := by simp [kidsK] at hn; omega
      match L, this with
      | [qa], _ => exact ⟨qa, rfl⟩
    obtain ⟨ra, a, zqa⟩ := qa
    have c1 : ACall Tryz.prog 43 [.c (.d (.rp 0 (Tm.node 5 name arg num tk tks uk uks label place ks).cells)), .c (.d (.sl 0 2 (Ty.rows [a])))] [] (fun o σ => o = .ret (.tup [(ruleM 5 name (.node tk tks) (.node uk uks) [a]).1.val, .c (.d (.bool (ruleM 5 name (.node tk tks) (.node uk uks) [a]).2))]) ∧ σ = []) := tab2_call 5 name arg num tk tks uk uks label place ks a
    have c1 := rule_any (by first | exact .nil | exact .cons (.c _ _ (RtC.rp (.cons (.int _ _) .nil))) .nil | exact .cons (.c _ _ (RtC.rp (.cons (.bool _) .nil))) .nil) c1
    rw [if_neg (by decide)] at hok ⊢
    simp only [List.map_cons, List.map_nil, Pf.ty] at hok ⊢
    have c2 := whole2_call _ hok
    generalize ruleM 5 name (.node tk tks) (.node uk uks) [a] = y at *
    obtain ⟨⟨yk, yks⟩, yb⟩ := y
    obtain ⟨ka, zas⟩ := a
    repeat' first | ((refine mlook_case ?_; conv => whnf)) | ((refine And.intro (rfl : (_ : Nat) = _) ?_; conv => whnf)) | refine AW.seq ?_ | refine AW.block ?_ | (refine (id : AW _ _ _ (.region 2 _ true) _ _ → _) ?_; refine AW.draw (id := 2) tab_ok mixed [0, 1, 2, 3, 4, 5, 6, 7, 8, 9, 10, 11, 12, 13, 14, 15, 16, 17, 18, 19, 20, 21, 22, 23] (by kernel_rfl) ?_; conv => whnf) | (refine (id : AW _ _ _ (.region 14 _ true) _ _ → _) ?_; refine AW.drawT (id := 14) tab_ok mixed [0, 1, 2, 3, 4, 5, 6, 7, 8, 9, 10, 12, 11, 13, 14, 15, 16, 17, 18, 19] oTRw4_19_14 (by kernel_rfl) ?_; conv => whnf) | (refine (id : AW _ _ _ (.region 25 _ true) _ _ → _) ?_; refine AW.draw (id := 25) tab_ok mixed [0, 1, 2, 3, 4, 5, 6, 7, 8, 9, 10, 11, 12, 13, 14, 15, 16] (by kernel_rfl) ?_; conv => whnf) | (refine Fork.mk ?_ ?_ <;> conv => whnf) | ((first | refine AW.region tab_ok ?_ | refine AW.cond ?_ | refine AW.skip ?_ | refine AW.ret ?_ | refine AW.exit ?_); conv => whnf) | ((first | refine (c1).mono ?_ | refine (c2).mono ?_); rintro _ _ ⟨rfl, rfl⟩; conv => whnf) | ((first | refine And.intro (@rfl Val _) ?_ | refine And.intro (by decide) ?_ | refine cs (fun _ => ?_) (fun _ => ?_)) <;> conv => whnf)
    all_goals first | exact ⟨rfl, rfl⟩ | (rename_i g; have g : _ = true := g; cases g; exact ⟨rfl, rfl⟩) | (rename_i g; have g : _ = false := g; cases g; exact ⟨rfl, rfl⟩)
  · obtain ⟨qa, qb, rfl⟩ : ∃ qa qb, L = [qa, qb] := by
      have : L.length = 2 := by simp [kidsK] at hn; omega
      match L, this with
      | [qa, qb], _ => exact ⟨qa, qb, rfl⟩
    obtain ⟨ra, a, zqa⟩ := qa
    obtain ⟨rb, b, zqb⟩ := qb
    have c1 : ACall Tryz.prog 45 [.c (.d (.rp 0 (Tm.node 6 name arg num tk tks uk uks label place ks).cells)), .c (.d (.sl 0 2 (Ty.rows [a, b])))] [] (fun o σ => o = .ret (.tup [(ruleM 6 name (.node tk tks) (.node uk uks) [a, b]).1.val, .c (.d (.bool (ruleM 6 name (.node tk tks) (.node uk uks) [a, b]).2))]) ∧ σ = []) := tab3_call 6 name arg num tk tks uk uks label place ks a b
    have c1 := rule_any (by first | exact .nil | exact .cons (.c _ _ (RtC.rp (.cons (.int _ _) .nil))) .nil | exact .cons (.c _ _ (RtC.rp (.cons (.bool _) .nil))) .nil) c1
    rw [if_neg (by decide)] at hok ⊢
    simp only [List.map_cons, List.map_nil, Pf.ty] at hok ⊢
    have c2 := whole2_call _ hok
    generalize ruleM 6 name (.node tk tks) (.node uk uks) [a, b] = y at *
    obtain ⟨⟨yk, yks⟩, yb⟩ := y
    obtain ⟨ka, zas⟩ := a
    obtain ⟨kb, zbs⟩ := b
    repeat' first | ((refine mlook_case ?_; conv => whnf)) | ((refine And.intro (rfl : (_ : Nat) = _) ?_; conv => whnf)) | refine AW.seq ?_ | refine AW.block ?_ | (refine (id : AW _ _ _ (.region 2 _ true) _ _ → _) ?_; refine AW.draw (id := 2) tab_ok mixed [0, 1, 2, 3, 4, 5, 6, 7, 8, 9, 10, 11, 12, 13, 14, 15, 16, 17, 18, 19, 20, 21, 22, 23] (by kernel_rfl) ?_; conv => whnf) | (refine (id : AW _ _ _ (.region 14 _ true) _ _ → _) ?_; refine AW.drawT (id := 14) tab_ok mixed [0, 1, 2, 3, 4, 5, 6, 7, 8, 9, 10, 12, 11, 13, 14, 15, 16, 17, 18, 19] oTRw4_19_14 (by kernel_rfl) ?_; conv => whnf) | (refine (id : AW _ _ _ (.region 25 _ true) _ _ → _) ?_; refine AW.draw (id := 25) tab_ok mixed [0, 1, 2, 3, 4, 5, 6, 7, 8, 9, 10, 11, 12, 13, 14, 15, 16] (by kernel_rfl) ?_; conv => whnf) | (refine Fork.mk ?_ ?_ <;> conv => whnf) | ((first | refine AW.region tab_ok ?_ | refine AW.cond ?_ | refine AW.skip ?_ | refine AW.ret ?_ | refine AW.exit ?_); conv => whnf) | ((first | refine (c1).mono ?_ | refine (c2).mono ?_); rintro _ _ ⟨rfl, rfl⟩; conv => whnf) | ((first | refine And.intro (@rfl Val _) ?_ | refine And.intro (by decide) ?_ | refine cs (fun _ => ?_) (fun _ => ?_)) <;> conv => whnf)
    all_goals first | exact ⟨rfl, rfl⟩ | (rename_i g; have g : _ = true := g; cases g; exact ⟨rfl, rfl⟩) | (rename_i g; have g : _ = false := g; cases g; exact ⟨rfl, rfl⟩)
  · obtain ⟨qa, qb, rfl⟩ : ∃ qa qb, L = [qa, qb] := by
      have : L.length = 2 := by simp [kidsK] at hn; omega
      match L, this with
      | [qa, qb], _ => exact ⟨qa, qb, rfl⟩
    obtain ⟨ra, a, zqa⟩ := qa
    obtain ⟨rb, b, zqb⟩ := qb
    have c1 : ACall Tryz.prog 47 [.c (.d (.rp 0 (Tm.node 7 name arg num tk tks uk uks label place ks).cells)), .c (.d (.sl 0 2 (Ty.rows [a, b])))] [] (fun o σ => o = .ret (.tup [(ruleM 7 name (.node tk tks) (.node uk uks) [a, b]).1.val, .c (.d (.bool (ruleM 7 name (.node tk tks) (.node uk uks) [a, b]).2))]) ∧ σ = []) := tab4_call 7 name arg num tk tks uk uks label place ks a b
    have c1 := rule_any (by first | exact .nil | exact .cons (.c _ _ (RtC.rp (.cons (.int _ _) .nil))) .nil | exact .cons (.c _ _ (RtC.rp (.cons (.bool _) .nil))) .nil) c1
    rw [if_neg (by decide)] at hok ⊢
    simp only [List.map_cons, List.map_nil, Pf.ty] at hok ⊢
    have c2 := whole2_call _ hok
    generalize ruleM 7 name (.node tk tks) (.node uk uks) [a, b] = y at *
    obtain ⟨⟨yk, yks⟩, yb⟩ := y
    obtain ⟨ka, zas⟩ := a
    obtain ⟨kb, zbs⟩ := b
    repeat' first | ((refine mlook_case ?_; conv => whnf)) | ((refine And.intro (rfl : (_ : Nat) = _) ?_; conv => whnf)) | refine AW.seq ?_ | refine AW.block ?_ | (refine (id : AW _ _ _ (.region 2 _ true) _ _ → _) ?_; refine AW.draw (id := 2) tab_ok mixed [0, 1, 2, 3, 4, 5, 6, 7, 8, 9, 10, 11, 12, 13, 14, 15, 16, 17, 18, 19, 20, 21, 22, 23] (by kernel_rfl) ?_; conv => whnf) | (refine (id : AW _ _ _ (.region 14 _ true) _ _ → _) ?_; refine AW.drawT (id := 14) tab_ok mixed [0, 1, 2, 3, 4, 5, 6, 7, 8, 9, 10, 12, 11, 13, 14, 15, 16, 17, 18, 19] oTRw4_19_14 (by kernel_rfl) ?_; conv => whnf) | (refine (id : AW _ _ _ (.region 25 _ true) _ _ → _) ?_; refine AW.draw (id := 25) tab_ok mixed [0, 1, 2, 3, 4, 5, 6, 7, 8, 9, 10, 11, 12, 13, 14, 15, 16] (by kernel_rfl) ?_; conv => whnf) | (refine Fork.mk ?_ ?_ <;> conv => whnf) | ((first | refine AW.region tab_ok ?_ | refine AW.cond ?_ | refine AW.skip ?_ | refine AW.ret ?_ | refine AW.exit ?_); conv => whnf) | ((first | refine (c1).mono ?_ | refine (c2).mono ?_); rintro _ _ ⟨rfl, rfl⟩; conv => whnf) | ((first | refine And.intro (@rfl Val _) ?_ | refine And.intro (by decide) ?_ | refine cs (fun _ => ?_) (fun _ => ?_)) <;> conv => whnf)
    all_goals first | exact ⟨rfl, rfl⟩ | (rename_i g; have g : _ = true := g; cases g; exact ⟨rfl, rfl⟩) | (rename_i g; have g : _ = false := g; cases g; exact ⟨rfl, rfl⟩)
  · obtain ⟨qa, qb, qc, rfl⟩ : ∃ qa qb qc, L = [qa, qb, qc] := by
      have : L.length = 3 := by simp [kidsK] at hn; omega
      match L, this with
      | [qa, qb, qc], _ => exact ⟨qa, qb, qc, rfl⟩
    obtain ⟨ra, a, zqa⟩ := qa
    obtain ⟨rb, b, zqb⟩ := qb
    obtain ⟨rc, c, zqc⟩ := qc
    have c1 : ACall Tryz.prog 48 [.c (.d (.rp 0 (Tm.node 8 name arg num tk tks uk uks label place ks).cells)), .c (.d (.sl 0 2 (Ty.rows [a, b, c])))] [] (fun o σ => o = .ret (.tup [(ruleM 8 name (.node tk tks) (.node uk uks) [a, b, c]).1.val, .c (.d (.bool (ruleM 8 name (.node tk tks) (.node uk uks) [a, b, c]).2))]) ∧ σ = []) := tab5_call 8 name arg num tk tks uk uks label place ks a b c
    have c1 := rule_any (by first | exact .nil | exact .cons (.c _ _ (RtC.rp (.cons (.int _ _) .nil))) .nil | exact .cons (.c _ _ (RtC.rp (.cons (.bool _) .nil))) .nil) c1
    rw [if_neg (by decide)] at hok ⊢
    simp only [List.map_cons, List.map_nil, Pf.ty] at hok ⊢
    have c2 := whole2_call _ hok
    generalize ruleM 8 name (.node tk tks) (.node uk uks) [a, b, c] = y at *
    obtain ⟨⟨yk, yks⟩, yb⟩ := y
    obtain ⟨ka, zas⟩ := a
    obtain ⟨kb, zbs⟩ := b
    obtain ⟨kc, zcs⟩ := c
    repeat' first | ((refine mlook_case ?_; conv => whnf)) | ((refine And.intro (rfl : (_ : Nat) = _) ?_; conv => whnf)) | refine AW.seq ?_ | refine AW.block ?_ | (refine (id : AW _ _ _ (.region 2 _ true) _ _ → _) ?_; refine AW.draw (id := 2) tab_ok mixed [0, 1, 2, 3, 4, 5, 6, 7, 8, 9, 10, 11, 12, 13, 14, 15, 16, 17, 18, 19, 20, 21, 22, 23] (by kernel_rfl) ?_; conv => whnf) | (refine (id : AW _ _ _ (.region 14 _ true) _ _ → _) ?_; refine AW.drawT (id := 14) tab_ok mixed [0, 1, 2, 3, 4, 5, 6, 7, 8, 9, 10, 12, 11, 13, 14, 15, 16, 17, 18, 19] oTRw4_19_14 (by kernel_rfl) ?_; conv => whnf) | (refine (id : AW _ _ _ (.region 25 _ true) _ _ → _) ?_; refine AW.draw (id := 25) tab_ok mixed [0, 1, 2, 3, 4, 5, 6, 7, 8, 9, 10, 11, 12, 13, 14, 15, 16] (by kernel_rfl) ?_; conv => whnf) | (refine Fork.mk ?_ ?_ <;> conv => whnf) | ((first | refine AW.region tab_ok ?_ | refine AW.cond ?_ | refine AW.skip ?_ | refine AW.ret ?_ | refine AW.exit ?_); conv => whnf) | ((first | refine (c1).mono ?_ | refine (c2).mono ?_); rintro _ _ ⟨rfl, rfl⟩; conv => whnf) | ((first | refine And.intro (@rfl Val _) ?_ | refine And.intro (by decide) ?_ | refine cs (fun _ => ?_) (fun _ => ?_)) <;> conv => whnf)
    all_goals first | exact ⟨rfl, rfl⟩ | (rename_i g; have g : _ = true := g; cases g; exact ⟨rfl, rfl⟩) | (rename_i g; have g : _ = false := g; cases g; exact ⟨rfl, rfl⟩)
  · obtain ⟨qa, qb, rfl⟩ : ∃ qa qb, L = [qa, qb] := by
      have : L.length = 2 := by simp [kidsK] at hn; omega
      match L, this with
      | [qa, qb], _ => exact ⟨qa, qb, rfl⟩
    obtain ⟨ra, a, zqa⟩ := qa
    obtain ⟨rb, b, zqb⟩ := qb
    have c1 : ACall Tryz.prog 50 [.c (.d (.rp 0 (Tm.node 9 name arg num tk tks uk uks label place ks).cells)), .c (.d (.sl 0 2 (Ty.rows [a, b])))] [] (fun o σ => o = .ret (.tup [(ruleM 9 name (.node tk tks) (.node uk uks) [a, b]).1.val, .c (.d (.bool (ruleM 9 name (.node tk tks) (.node uk uks) [a, b]).2))]) ∧ σ = []) := tab6_call 9 name arg num tk tks uk uks label place ks a b
    have c1 := rule_any (by first | exact .nil | exact .cons (.c _ _ (RtC.rp (.cons (.int _ _) .nil))) .nil | exact .cons (.c _ _ (RtC.rp (.cons (.bool _) .nil))) .nil) c1
    rw [if_neg (by decide)] at hok ⊢
    simp only [List.map_cons, List.map_nil, Pf.ty] at hok ⊢
    have c2 := whole2_call _ hok
    generalize ruleM 9 name (.node tk tks) (.node uk uks) [a, b] = y at *
    obtain ⟨⟨yk, yks⟩, yb⟩ := y
    obtain ⟨ka, zas⟩ := a
    obtain ⟨kb, zbs⟩ := b
    repeat' first | ((refine mlook_case ?_; conv => whnf)) | ((refine And.intro (rfl : (_ : Nat) = _) ?_; conv => whnf)) | refine AW.seq ?_ | refine AW.block ?_ | (refine (id : AW _ _ _ (.region 2 _ true) _ _ → _) ?_; refine AW.draw (id := 2) tab_ok mixed [0, 1, 2, 3, 4, 5, 6, 7, 8, 9, 10, 11, 12, 13, 14, 15, 16, 17, 18, 19, 20, 21, 22, 23] (by kernel_rfl) ?_; conv => whnf) | (refine (id : AW _ _ _ (.region 14 _ true) _ _ → _) ?_; refine AW.drawT (id := 14) tab_ok mixed [0, 1, 2, 3, 4, 5, 6, 7, 8, 9, 10, 12, 11, 13, 14, 15, 16, 17, 18, 19] oTRw4_19_14 (by kernel_rfl) ?_; conv => whnf) | (refine (id : AW _ _ _ (.region 25 _ true) _ _ → _) ?_; refine AW.draw (id := 25) tab_ok mixed [0, 1, 2, 3, 4, 5, 6, 7, 8, 9, 10, 11, 12, 13, 14, 15, 16] (by kernel_rfl) ?_; conv => whnf) | (refine Fork.mk ?_ ?_ <;> conv => whnf) | ((first | refine AW.region tab_ok ?_ | refine AW.cond ?_ | refine AW.skip ?_ | refine AW.ret ?_ | refine AW.exit ?_); conv => whnf) | ((first | refine (c1).mono ?_ | refine (c2).mono ?_); rintro _ _ ⟨rfl, rfl⟩; conv => whnf) | ((first | refine And.intro (@rfl Val _) ?_ | refine And.intro (by decide) ?_ | refine cs (fun _ => ?_) (fun _ => ?_)) <;> conv => whnf)
    all_goals first | exact ⟨rfl, rfl⟩ | (rename_i g; have g : _ = true := g; cases g; exact ⟨rfl, rfl⟩) | (rename_i g; have g : _ = false := g; cases g; exact ⟨rfl, rfl⟩)
  · obtain ⟨qa, rfl⟩ : ∃ qa, L = [qa] := by
      have : L.length = 1 := by simp [kidsK] at hn; omega
      match L, this with
      | [qa], _ => exact ⟨qa, rfl⟩
    obtain ⟨ra, a, zqa⟩ := qa
    have c1 : ACall Tryz.prog 75 [.c (.d (.rp 0 (Tm.node 10 name arg num tk tks uk uks label place ks).cells)), .c (.d (.sl 0 2 (Ty.rows [a]))), .c (.d (.rp 0 [.bool false]))] [] (fun o σ => o = .ret (.tup [(ruleM 10 name (.node tk tks) (.node uk uks) [a]).1.val, .c (.d (.bool (ruleM 10 name (.node tk tks) (.node uk uks) [a]).2))]) ∧ σ = []) := part1_call 10 name arg num tk tks uk uks label place ks a false
    have c1 := rule_any (by first | exact .nil | exact .cons (.c _ _ (RtC.rp (.cons (.int _ _) .nil))) .nil | exact .cons (.c _ _ (RtC.rp (.cons (.bool _) .nil))) .nil) c1
    rw [if_neg (by decide)] at hok ⊢
    simp only [List.map_cons, List.map_nil, Pf.ty] at hok ⊢
    have c2 := whole2_call _ hok
    generalize ruleM 10 name (.node tk tks) (.node uk uks) [a] = y at *
    obtain ⟨⟨yk, yks⟩, yb⟩ := y
    obtain ⟨ka, zas⟩ := a
    repeat' first | ((refine mlook_case ?_; conv => whnf)) | ((refine And.intro (rfl : (_ : Nat) = _) ?_; conv => whnf)) | refine AW.seq ?_ | refine AW.block ?_ | (refine (id : AW _ _ _ (.region 2 _ true) _ _ → _) ?_; refine AW.draw (id := 2) tab_ok mixed [0, 1, 2, 3, 4, 5, 6, 7, 8, 9, 10, 11, 12, 13, 14, 15, 16, 17, 18, 19, 20, 21, 22, 23] (by kernel_rfl) ?_; conv => whnf) | (refine (id : AW _ _ _ (.region 14 _ true) _ _ → _) ?_; refine AW.drawT (id := 14) tab_ok mixed [0, 1, 2, 3, 4, 5, 6, 7, 8, 9, 10, 12, 11, 13, 14, 15, 16, 17, 18, 19] oTRw4_19_14 (by kernel_rfl) ?_; conv => whnf) | (refine (id : AW _ _ _ (.region 25 _ true) _ _ → _) ?_; refine AW.draw (id := 25) tab_ok mixed [0, 1, 2, 3, 4, 5, 6, 7, 8, 9, 10, 11, 12, 13, 14, 15, 16] (by kernel_rfl) ?_; conv => whnf) | (refine Fork.mk ?_ ?_ <;> conv => whnf) | ((first | refine AW.region tab_ok ?_ | refine AW.cond ?_ | refine AW.skip ?_ | refine AW.ret ?_ | refine AW.exit ?_); conv => whnf) | ((first | refine (c1).mono ?_ | refine (c2).mono ?_); rintro _ _ ⟨rfl, rfl⟩; conv => whnf) | ((first | refine And.intro (@rfl Val _) ?_ | refine And.intro (by decide) ?_ | refine cs (fun _ => ?_) (fun _ => ?_)) <;> conv => whnf)
    all_goals first | exact ⟨rfl, rfl⟩ | (rename_i g; have g : _ = true := g; cases g; exact ⟨rfl, rfl⟩) | (rename_i g; have g : _ = false := g; cases g; exact ⟨rfl, rfl⟩)
  · obtain ⟨qa, rfl⟩ : ∃ qa, L = [qa] := by
      have : L.length = 1 := by simp [kidsK] at hn; omega
      match L, this with
      | [qa], _ => exact ⟨qa, rfl⟩
    obtain ⟨ra, a, zqa⟩ := qa
    have c1 : ACall Tryz.prog 75 [.c (.d (.rp 0 (Tm.node 11 name arg num tk tks uk uks label place ks).cells)), .c (.d (.sl 0 2 (Ty.rows [a]))), .c (.d (.rp 0 [.bool true]))] [] (fun o σ => o = .ret (.tup [(ruleM 11 name (.node tk tks) (.node uk uks) [a]).1.val, .c (.d (.bool (ruleM 11 name (.node tk tks) (.node uk uks) [a]).2))]) ∧ σ = []) := part1_call 11 name arg num tk tks uk uks label place ks a true
    have c1 := rule_any (by first | exact .nil | exact .cons (.c _ _ (RtC.rp (.cons (.int _ _) .nil))) .nil | exact .cons (.c _ _ (RtC.rp (.cons (.bool _) .nil))) .nil) c1
    rw [if_neg (by decide)] at hok ⊢
    simp only [List.map_cons, List.map_nil, Pf.ty] at hok ⊢
    have c2 := whole2_call _ hok
    generalize ruleM 11 name (.node tk tks) (.node uk uks) [a] = y at *
    obtain ⟨⟨yk, yks⟩, yb⟩ := y
    obtain ⟨ka, zas⟩ := a
    repeat' first | ((refine mlook_case ?_; conv => whnf)) | ((refine And.intro (rfl : (_ : Nat) = _) ?_; conv => whnf)) | refine AW.seq ?_ | refine AW.block ?_ | (refine (id : AW _ _ _ (.region 2 _ true) _ _ → _) ?_; refine AW.draw (id := 2) tab_ok mixed [0, 1, 2, 3, 4, 5, 6, 7, 8, 9, 10, 11, 12, 13, 14, 15, 16, 17, 18, 19, 20, 21, 22, 23] (by kernel_rfl) ?_; conv => whnf) | (refine (id : AW _ _ _ (.region 14 _ true) _ _ → _) ?_; refine AW.drawT (id := 14) tab_ok mixed [0, 1, 2, 3, 4, 5, 6, 7, 8, 9, 10, 12, 11, 13, 14, 15, 16, 17, 18, 19] oTRw4_19_14 (by kernel_rfl) ?_; conv => whnf) | (refine (id : AW _ _ _ (.region 25 _ true) _ _ → _) ?_; refine AW.draw (id := 25) tab_ok mixed [0, 1, 2, 3, 4, 5, 6, 7, 8, 9, 10, 11, 12, 13, 14, 15, 16] (by kernel_rfl) ?_; conv => whnf) | (refine Fork.mk ?_ ?_ <;> conv => whnf) | ((first | refine AW.region tab_ok ?_ | refine AW.cond ?_ | refine AW.skip ?_ | refine AW.ret ?_ | refine AW.exit ?_); conv => whnf) | ((first | refine (c1).mono ?_ | refine (c2).mono ?_); rintro _ _ ⟨rfl, rfl⟩; conv => whnf) | ((first | refine And.intro (@rfl Val _) ?_ | refine And.intro (by decide) ?_ | refine cs (fun _ => ?_) (fun _ => ?_)) <;> conv => whnf)
    all_goals first | exact ⟨rfl, rfl⟩ | (rename_i g; have g : _ = true := g; cases g; exact ⟨rfl, rfl⟩) | (rename_i g; have g : _ = false := g; cases g; exact ⟨rfl, rfl⟩)
  · obtain ⟨qa, rfl⟩ : ∃ qa, L = [qa] := by
      have : L.length = 1 := by simp [kidsK] at hn; omega
      match L, this with
      | [qa], _ => exact ⟨qa, rfl⟩
    obtain ⟨ra, a, zqa⟩ := qa
    have c1 : ACall Tryz.prog 76 [.c (.d (.rp 0 (Tm.node 12 name arg num tk tks uk uks label place ks).cells)), .c (.d (.sl 0 2 (Ty.rows [a]))), .c (.d (.rp 0 [.bool false]))] [] (fun o σ => o = .ret (.tup [(ruleM 12 name (.node tk tks) (.node uk uks) [a]).1.val, .c (.d (.bool (ruleM 12 name (.node tk tks) (.node uk uks) [a]).2))]) ∧ σ = []) := into1_call 12 name arg num tk tks uk uks label place ks a false
    have c1 := rule_any (by first | exact .nil | exact .cons (.c _ _ (RtC.rp (.cons (.int _ _) .nil))) .nil | exact .cons (.c _ _ (RtC.rp (.cons (.bool _) .nil))) .nil) c1
    rw [if_neg (by decide)] at hok ⊢
    simp only [List.map_cons, List.map_nil, Pf.ty] at hok ⊢
    have c2 := whole2_call _ hok
    generalize ruleM 12 name (.node tk tks) (.node uk uks) [a] = y at *
    obtain ⟨⟨yk, yks⟩, yb⟩ := y
    obtain ⟨ka, zas⟩ := a
    repeat' first | ((refine mlook_case ?_; conv => whnf)) | ((refine And.intro (rfl : (_ : Nat) = _) ?_; conv => whnf)) | refine AW.seq ?_ | refine AW.block ?_ | (refine (id : AW _ _ _ (.region 2 _ true) _ _ → _) ?_; refine AW.draw (id := 2) tab_ok mixed [0, 1, 2, 3, 4, 5, 6, 7, 8, 9, 10, 11, 12, 13, 14, 15, 16, 17, 18, 19, 20, 21, 22, 23] (by kernel_rfl) ?_; conv => whnf) | (refine (id : AW _ _ _ (.region 14 _ true) _ _ → _) ?_; refine AW.drawT (id := 14) tab_ok mixed [0, 1, 2, 3, 4, 5, 6, 7, 8, 9, 10, 12, 11, 13, 14, 15, 16, 17, 18, 19] oTRw4_19_14 (by kernel_rfl) ?_; conv => whnf) | (refine (id : AW _ _ _ (.region 25 _ true) _ _ → _) ?_; refine AW.draw (id := 25) tab_ok mixed [0, 1, 2, 3, 4, 5, 6, 7, 8, 9, 10, 11, 12, 13, 14, 15, 16] (by kernel_rfl) ?_; conv => whnf) | (refine Fork.mk ?_ ?_ <;> conv => whnf) | ((first | refine AW.region tab_ok ?_ | refine AW.cond ?_ | refine AW.skip ?_ | refine AW.ret ?_ | refine AW.exit ?_); conv => whnf) | ((first | refine (c1).mono ?_ | refine (c2).mono ?_); rintro _ _ ⟨rfl, rfl⟩; conv => whnf) | ((first | refine And.intro (@rfl Val _) ?_ | refine And.intro (by decide) ?_ | refine cs (fun _ => ?_) (fun _ => ?_)) <;> conv => whnf)
    all_goals first | exact ⟨rfl, rfl⟩ | (rename_i g; have g : _ = true := g; cases g; exact ⟨rfl, rfl⟩) | (rename_i g; have g : _ = false := g; cases g; exact ⟨rfl, rfl⟩)
  · obtain ⟨qa, rfl⟩ : ∃ qa, L = [qa] := by
      have : L.length = 1 := by simp [kidsK] at hn; omega
      match L, this with
      | [qa], _ => exact ⟨qa, rfl⟩
    obtain ⟨ra, a, zqa⟩ := qa
    have c1 : ACall Tryz.prog 76 [.c (.d (.rp 0 (Tm.node 13 name arg num tk tks uk uks label place ks).cells)), .c (.d (.sl 0 2 (Ty.rows [a]))), .c (.d (.rp 0 [.bool true]))] [] (fun o σ => o = .ret (.tup [(ruleM 13 name (.node tk tks) (.node uk uks) [a]).1.val, .c (.d (.bool (ruleM 13 name (.node tk tks) (.node uk uks) [a]).2))]) ∧ σ = []) := into1_call 13 name arg num tk tks uk uks label place ks a true
    have c1 := rule_any (by first | exact .nil | exact .cons (.c _ _ (RtC.rp (.cons (.int _ _) .nil))) .nil | exact .cons (.c _ _ (RtC.rp (.cons (.bool _) .nil))) .nil) c1
    rw [if_neg (by decide)] at hok ⊢
    simp only [List.map_cons, List.map_nil, Pf.ty] at hok ⊢
    have c2 := whole2_call _ hok
    generalize ruleM 13 name (.node tk tks) (.node uk uks) [a] = y at *
    obtain ⟨⟨yk, yks⟩, yb⟩ := y
    obtain ⟨ka, zas⟩ := a
    repeat' first | ((refine mlook_case ?_; conv => whnf)) | ((refine And.intro (rfl : (_ : Nat) = _) ?_; conv => whnf)) | refine AW.seq ?_ | refine AW.block ?_ | (refine (id : AW _ _ _ (.region 2 _ true) _ _ → _) ?_; refine AW.draw (id := 2) tab_ok mixed [0, 1, 2, 3, 4, 5, 6, 7, 8, 9, 10, 11, 12, 13, 14, 15, 16, 17, 18, 19, 20, 21, 22, 23] (by kernel_rfl) ?_; conv => whnf) | (refine (id : AW _ _ _ (.region 14 _ true) _ _ → _) ?_; refine AW.drawT (id := 14) tab_ok mixed [0, 1, 2, 3, 4, 5, 6, 7, 8, 9, 10, 12, 11, 13, 14, 15, 16, 17, 18, 19] oTRw4_19_14 (by kernel_rfl) ?_; conv => whnf) | (refine (id : AW _ _ _ (.region 25 _ true) _ _ → _) ?_; refine AW.draw (id := 25) tab_ok mixed [0, 1, 2, 3, 4, 5, 6, 7, 8, 9, 10, 11, 12, 13, 14, 15, 16] (by kernel_rfl) ?_; conv => whnf) | (refine Fork.mk ?_ ?_ <;> conv => whnf) | ((first | refine AW.region tab_ok ?_ | refine AW.cond ?_ | refine AW.skip ?_ | refine AW.ret ?_ | refine AW.exit ?_); conv => whnf) | ((first | refine (c1).mono ?_ | refine (c2).mono ?_); rintro _ _ ⟨rfl, rfl⟩; conv => whnf) | ((first | refine And.intro (@rfl Val _) ?_ | refine And.intro (by decide) ?_ | refine cs (fun _ => ?_) (fun _ => ?_)) <;> conv => whnf)
    all_goals first | exact ⟨rfl, rfl⟩ | (rename_i g; have g : _ = true := g; cases g; exact ⟨rfl, rfl⟩) | (rename_i g; have g : _ = false := g; cases g; exact ⟨rfl, rfl⟩)
  · obtain ⟨qa, qb, qc, rfl⟩ : ∃ qa qb qc, L = [qa, qb, qc] := by
      have : L.length = 3 := by simp [kidsK] at hn; omega
      match L, this with
      | [qa, qb, qc], _ => exact ⟨qa, qb, qc, rfl⟩
    obtain ⟨ra, a, zqa⟩ := qa
    obtain ⟨rb, b, zqb⟩ := qb
    obtain ⟨rc, c, zqc⟩ := qc
    have c1 : ACall Tryz.prog 51 [.c (.d (.rp 0 (Tm.node 14 name arg num tk tks uk uks label place ks).cells)), .c (.d (.sl 0 2 (Ty.rows [a, b, c])))] [] (fun o σ => o = .ret (.tup [(ruleM 14 name (.node tk tks) (.node uk uks) [a, b, c]).1.val, .c (.d (.bool (ruleM 14 name (.node tk tks) (.node uk uks) [a, b, c]).2))]) ∧ σ = []) := tab7_call 14 name arg num tk tks uk uks label place ks a b c
    have c1 := rule_any (by first | exact .nil | exact .cons (.c _ _ (RtC.rp (.cons (.int _ _) .nil))) .nil | exact .cons (.c _ _ (RtC.rp (.cons (.bool _) .nil))) .nil) c1
    rw [if_neg (by decide)] at hok ⊢
    simp only [List.map_cons, List.map_nil, Pf.ty] at hok ⊢
    have c2 := whole2_call _ hok
    generalize ruleM 14 name (.node tk tks) (.node uk uks) [a, b, c] = y at *
    obtain ⟨⟨yk, yks⟩, yb⟩ := y
    obtain ⟨ka, zas⟩ := a
    obtain ⟨kb, zbs⟩ := b
    obtain ⟨kc, zcs⟩ := c
    repeat' first | ((refine mlook_case ?_; conv => whnf)) | ((refine And.intro (rfl : (_ : Nat) = _) ?_; conv => whnf)) | refine AW.seq ?_ | refine AW.block ?_ | (refine (id : AW _ _ _ (.region 2 _ true) _ _ → _) ?_; refine AW.draw (id := 2) tab_ok mixed [0, 1, 2, 3, 4, 5, 6, 7, 8, 9, 10, 11, 12, 13, 14, 15, 16, 17, 18, 19, 20, 21, 22, 23] (by kernel_rfl) ?_; conv => whnf) | (refine (id : AW _ _ _ (.region 14 _ true) _ _ → _) ?_; refine AW.drawT (id := 14) tab_ok mixed [0, 1, 2, 3, 4, 5, 6, 7, 8, 9, 10, 12, 11, 13, 14, 15, 16, 17, 18, 19] oTRw4_19_14 (by kernel_rfl) ?_; conv => whnf) | (refine (id : AW _ _ _ (.region 25 _ true) _ _ → _) ?_; refine AW.draw (id := 25) tab_ok mixed [0, 1, 2, 3, 4, 5, 6, 7, 8, 9, 10, 11, 12, 13, 14, 15, 16] (by kernel_rfl) ?_; conv => whnf) | (refine Fork.mk ?_ ?_ <;> conv => whnf) | ((first | refine AW.region tab_ok ?_ | refine AW.cond ?_ | refine AW.skip ?_ | refine AW.ret ?_ | refine AW.exit ?_); conv => whnf) | ((first | refine (c1).mono ?_ | refine (c2).mono ?_); rintro _ _ ⟨rfl, rfl⟩; conv => whnf) | ((first | refine And.intro (@rfl Val _) ?_ | refine And.intro (by decide) ?_ | refine cs (fun _ => ?_) (fun _ => ?_)) <;> conv => whnf)
    all_goals first | exact ⟨rfl, rfl⟩ | (rename_i g; have g : _ = true := g; cases g; exact ⟨rfl, rfl⟩) | (rename_i g; have g : _ = false := g; cases g; exact ⟨rfl, rfl⟩)
  · obtain ⟨qa, qb, rfl⟩ : ∃ qa qb, L = [qa, qb] := by
      have : L.length = 2 := by simp [kidsK] at hn; omega
      match L, this with
      | [qa, qb], _ => exact ⟨qa, qb, rfl⟩
    obtain ⟨ra, a, zqa⟩ := qa
    obtain ⟨rb, b, zqb⟩ := qb
    have c1 : ACall Tryz.prog 40 [.c (.d (.rp 0 (Tm.node 15 name arg num tk tks uk uks label place ks).cells)), .c (.d (.sl 0 2 (Ty.rows [a, b])))] [] (fun o σ => o = .ret (.tup [(ruleM 15 name (.node tk tks) (.node uk uks) [a, b]).1.val, .c (.d (.bool (ruleM 15 name (.node tk tks) (.node uk uks) [a, b]).2))]) ∧ σ = []) := op_call 15 name arg num tk tks uk uks label place ks a b
    have c1 := rule_any (by first | exact .nil | exact .cons (.c _ _ (RtC.rp (.cons (.int _ _) .nil))) .nil | exact .cons (.c _ _ (RtC.rp (.cons (.bool _) .nil))) .nil) c1
    rw [if_neg (by decide)] at hok ⊢
    simp only [List.map_cons, List.map_nil, Pf.ty] at hok ⊢
    have c2 := whole2_call _ hok
    generalize ruleM 15 name (.node tk tks) (.node uk uks) [a, b] = y at *
    obtain ⟨⟨yk, yks⟩, yb⟩ := y
    obtain ⟨ka, zas⟩ := a
    obtain ⟨kb, zbs⟩ := b
    repeat' first | ((refine mlook_case ?_; conv => whnf)) | ((refine And.intro (rfl : (_ : Nat) = _) ?_; conv => whnf)) | refine AW.seq ?_ | refine AW.block ?_ | (refine (id : AW _ _ _ (.region 2 _ true) _ _ → _) ?_; refine AW.draw (id := 2) tab_ok mixed [0, 1, 2, 3, 4, 5, 6, 7, 8, 9, 10, 11, 12, 13, 14, 15, 16, 17, 18, 19, 20, 21, 22, 23] (by kernel_rfl) ?_; conv => whnf) | (refine (id : AW _ _ _ (.region 14 _ true) _ _ → _) ?_; refine AW.drawT (id := 14) tab_ok mixed [0, 1, 2, 3, 4, 5, 6, 7, 8, 9, 10, 12, 11, 13, 14, 15, 16, 17, 18, 19] oTRw4_19_14 (by kernel_rfl) ?_; conv => whnf) | (refine (id : AW _ _ _ (.region 25 _ true) _ _ → _) ?_; refine AW.draw (id := 25) tab_ok mixed [0, 1, 2, 3, 4, 5, 6, 7, 8, 9, 10, 11, 12, 13, 14, 15, 16] (by kernel_rfl) ?_; conv => whnf) | (refine Fork.mk ?_ ?_ <;> conv => whnf) | ((first | refine AW.region tab_ok ?_ | refine AW.cond ?_ | refine AW.skip ?_ | refine AW.ret ?_ | refine AW.exit ?_); conv => whnf) | ((first | refine (c1).mono ?_ | refine (c2).mono ?_); rintro _ _ ⟨rfl, rfl⟩; conv => whnf) | ((first | refine And.intro (@rfl Val _) ?_ | refine And.intro (by decide) ?_ | refine cs (fun _ => ?_) (fun _ => ?_)) <;> conv => whnf)
    all_goals first | exact ⟨rfl, rfl⟩ | (rename_i g; have g : _ = true := g; cases g; exact ⟨rfl, rfl⟩) | (rename_i g; have g : _ = false := g; cases g; exact ⟨rfl, rfl⟩)
  · obtain ⟨qa, rfl⟩ : ∃ qa, L = [qa] := by
      have : L.length = 1 := by simp [kidsK] at hn; omega
      match L, this with
      | [qa], _ => exact ⟨qa, rfl⟩
    obtain ⟨ra, a, zqa⟩ := qa
    have c1 : ACall Tryz.prog 52 [.c (.d (.rp 0 (Tm.node 16 name arg num tk tks uk uks label place ks).cells)), .c (.d (.sl 0 2 (Ty.rows [a])))] [] (fun o σ => o = .ret (.tup [(ruleM 16 name (.node tk tks) (.node uk uks) [a]).1.val, .c (.d (.bool (ruleM 16 name (.node tk tks) (.node uk uks) [a]).2))]) ∧ σ = []) := tab8_call 16 name arg num tk tks uk uks label place ks a
    have c1 := rule_any (by first | exact .nil | exact .cons (.c _ _ (RtC.rp (.cons (.int _ _) .nil))) .nil | exact .cons (.c _ _ (RtC.rp (.cons (.bool _) .nil))) .nil) c1
    rw [if_neg (by decide)] at hok ⊢
    simp only [List.map_cons, List.map_nil, Pf.ty] at hok ⊢
    have c2 := whole2_call _ hok
    generalize ruleM 16 name (.node tk tks) (.node uk uks) [a] = y at *
    obtain ⟨⟨yk, yks⟩, yb⟩ := y
    obtain ⟨ka, zas⟩ := a
    repeat' first | ((refine mlook_case ?_; conv => whnf)) | ((refine And.intro (rfl : (_ : Nat) = _) ?_; conv => whnf)) | refine AW.seq ?_ | refine AW.block ?_ | (refine (id : AW _ _ _ (.region 2 _ true) _ _ → _) ?_; refine AW.draw (id := 2) tab_ok mixed [0, 1, 2, 3, 4, 5, 6, 7, 8, 9, 10, 11, 12, 13, 14, 15, 16, 17, 18, 19, 20, 21, 22, 23] (by kernel_rfl) ?_; conv => whnf) | (refine (id : AW _ _ _ (.region 14 _ true) _ _ → _) ?_; refine AW.drawT (id := 14) tab_ok mixed [0, 1, 2, 3, 4, 5, 6, 7, 8, 9, 10, 12, 11, 13, 14, 15, 16, 17, 18, 19] oTRw4_19_14 (by kernel_rfl) ?_; conv => whnf) | (refine (id : AW _ _ _ (.region 25 _ true) _ _ → _) ?_; refine AW.draw (id := 25) tab_ok mixed [0, 1, 2, 3, 4, 5, 6, 7, 8, 9, 10, 11, 12, 13, 14, 15, 16] (by kernel_rfl) ?_; conv => whnf) | (refine Fork.mk ?_ ?_ <;> conv => whnf) | ((first | refine AW.region tab_ok ?_ | refine AW.cond ?_ | refine AW.skip ?_ | refine AW.ret ?_ | refine AW.exit ?_); conv => whnf) | ((first | refine (c1).mono ?_ | refine (c2).mono ?_); rintro _ _ ⟨rfl, rfl⟩; conv => whnf) | ((first | refine And.intro (@rfl Val _) ?_ | refine And.intro (by decide) ?_ | refine cs (fun _ => ?_) (fun _ => ?_)) <;> conv => whnf)
    all_goals first | exact ⟨rfl, rfl⟩ | (rename_i g; have g : _ = true := g; cases g; exact ⟨rfl, rfl⟩) | (rename_i g; have g : _ = false := g; cases g; exact ⟨rfl, rfl⟩)
end Go.Proofs.YtlboogackecjlaaGreat.E
