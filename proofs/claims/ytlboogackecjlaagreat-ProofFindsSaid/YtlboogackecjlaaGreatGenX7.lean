/- Texts, merged: Pg, Pg2, Tmd, Tm11, Pu1, Pu2, Pu3, Pv1. No conditions. -/
import Derived.Test.YtlboogackecjlaaGreatGenX6
import Derived.KernelRfl
import Derived.Test.YtlboogackecjlaaGreatEngX3
import Derived.Test.YtlboogackecjlaaGreatGenX5
/- ProofGreat: proof's table and its derivations of small terms. No conditions. -/
set_option linter.unusedVariables false
set_option linter.unusedSimpArgs false
namespace Go.Proofs.YtlboogackecjlaaGreat.E
open Go
def oTPg_19_14 : OT := (.op 0 (.op 1 (.op 2 (.op 3 (.op 4 (.op 5 (.op 6 (.op 7 (.op 8 (.op 9 (.op 10 (.op 12 (.alt (.op 11 (.alt (.op 13 (.op 14 (.alt (.op 15 (.alt (.op 16 (.op 17 (.op 18 (.op 19 .nil)))) (.op 17 (.alt (.op 16 (.op 18 (.op 19 .nil))) (.op 18 (.op 16 (.op 19 .nil))))))) (.alt (.op 16 (.alt (.op 15 (.op 17 (.op 18 (.op 19 .nil)))) (.op 17 (.op 15 (.op 18 (.op 19 .nil)))))) (.op 17 (.alt (.op 15 (.alt (.op 16 (.op 18 (.op 19 .nil))) (.op 18 (.op 16 (.op 19 .nil))))) (.op 16 (.op 15 (.op 18 (.op 19 .nil)))))))))) (.op 17 (.op 13 (.op 14 (.alt (.op 15 (.alt (.op 16 (.op 18 (.op 19 .nil))) (.op 18 (.op 16 (.op 19 .nil))))) (.op 16 (.op 15 (.op 18 (.op 19 .nil)))))))))) (.op 17 (.op 11 (.op 13 (.op 14 (.alt (.op 15 (.alt (.op 16 (.op 18 (.op 19 .nil))) (.op 18 (.op 16 (.op 19 .nil))))) (.op 16 (.op 15 (.op 18 (.op 19 .nil))))))))))))))))))))))

set_option maxRecDepth 10000 in
theorem simple_call (k : Int) : ACall Tryz.prog 37 [.c (.d (.int .i8 k))] [] (fun o σ => o = .ret (.c (.fn 74 [] [.ptr 0 0])) ∧ σ = [.var [.d (.int .i8 k)]]) := by
  refine ACall.body tab_ok (ρ := 0) (N := 4) Tryz.func37 rfl rfl rfl rfl rfl ?_
  repeat' first | refine AW.seq ?_ | refine AW.block ?_ | ((first | refine AW.region tab_ok ?_ | refine AW.cond ?_ | refine AW.skip ?_ | refine AW.ret ?_ | refine AW.exit ?_); conv => whnf) | ((first | refine And.intro (@rfl Val _) ?_ | refine And.intro (by decide) ?_ | refine cs (fun _ => ?_) (fun _ => ?_)) <;> conv => whnf)
  exact ⟨rfl, rfl⟩
set_option maxRecDepth 10000 in
theorem part_call (b : Bool) : ACall Tryz.prog 38 [.c (.d (.bool b))] [] (fun o σ => o = .ret (.c (.fn 75 [] [.ptr 0 0])) ∧ σ = [.var [.d (.bool b)]]) := by
  refine ACall.body tab_ok (ρ := 0) (N := 4) Tryz.func38 rfl rfl rfl rfl rfl ?_
  repeat' first | refine AW.seq ?_ | refine AW.block ?_ | ((first | refine AW.region tab_ok ?_ | refine AW.cond ?_ | refine AW.skip ?_ | refine AW.ret ?_ | refine AW.exit ?_); conv => whnf) | ((first | refine And.intro (@rfl Val _) ?_ | refine And.intro (by decide) ?_ | refine cs (fun _ => ?_) (fun _ => ?_)) <;> conv => whnf)
  exact ⟨rfl, rfl⟩
set_option maxRecDepth 10000 in
theorem into_call (b : Bool) : ACall Tryz.prog 39 [.c (.d (.bool b))] [] (fun o σ => o = .ret (.c (.fn 76 [] [.ptr 0 0])) ∧ σ = [.var [.d (.bool b)]]) := by
  refine ACall.body tab_ok (ρ := 0) (N := 4) Tryz.func39 rfl rfl rfl rfl rfl ?_
  repeat' first | refine AW.seq ?_ | refine AW.block ?_ | ((first | refine AW.region tab_ok ?_ | refine AW.cond ?_ | refine AW.skip ?_ | refine AW.ret ?_ | refine AW.exit ?_); conv => whnf) | ((first | refine And.intro (@rfl Val _) ?_ | refine And.intro (by decide) ?_ | refine cs (fun _ => ?_) (fun _ => ?_)) <;> conv => whnf)
  exact ⟨rfl, rfl⟩
def ruleF (f : Nat) : DV := .fnd f [] []
def ruleC (f : Nat) (x : DV) : DV := .fnd f [] [.rp 0 [x]]
def k8 (i : Nat) (k : Int) (x : DV) : Nat × DV × DV := (i, .int .i8 k, x)
/-- The rules, as the table tells them. -/
def rulesM : List (Nat × DV × DV) := [k8 0 1 (ruleC 74 (.int .i8 1)), k8 1 2 (ruleC 74 (.int .i8 2)), k8 2 3 (ruleC 74 (.int .i8 2)),
  k8 3 10 (ruleC 75 (.bool false)), k8 4 11 (ruleC 75 (.bool true)), k8 5 12 (ruleC 76 (.bool false)), k8 6 13 (ruleC 76 (.bool true)),
  k8 7 15 (ruleF 40), k8 8 4 (ruleF 41), k8 9 5 (ruleF 43), k8 10 6 (ruleF 45), k8 11 7 (ruleF 47), k8 12 8 (ruleF 48),
  k8 13 9 (ruleF 50), k8 14 14 (ruleF 51), k8 15 16 (ruleF 52)]
theorem mput_to {q y : DV} {es : List (Nat × DV × DV)} {clock : Nat} {X : Nat → List (Nat × DV × DV) → Prop} (es' : List (Nat × DV × DV)) (h1 : mget q es 0 = none) (h2 : es ++ [(clock, q, y)] = es') (h : X (clock + 1) es') : mput q y es clock X := by
  refine ⟨?_⟩
  unfold mputD; rw [h1]; subst h2; exact h
def rT (n : Nat) : List (Nat × DV × DV) := rulesM.take n
set_option maxRecDepth 10000 in
theorem table_call : ACall Tryz.prog 20 [] [] (fun o σ => o = .ret (.c (.mp 0)) ∧ σ = [.mp (.int .i8) 16 rulesM]) := by
  refine ACall.body tab_ok (ρ := 0) (N := 10) Tryz.func20 rfl rfl rfl rfl rfl ?_
  repeat' first | ((refine mput_to (rT 1) rfl rfl ?_; conv => whnf)) | ((refine mput_to (rT 2) rfl rfl ?_; conv => whnf)) | ((refine mput_to (rT 3) rfl rfl ?_; conv => whnf)) | ((refine mput_to (rT 4) rfl rfl ?_; conv => whnf)) | ((refine mput_to (rT 5) rfl rfl ?_; conv => whnf)) | ((refine mput_to (rT 6) rfl rfl ?_; conv => whnf)) | ((refine mput_to (rT 7) rfl rfl ?_; conv => whnf)) | ((refine mput_to (rT 8) rfl rfl ?_; conv => whnf)) | ((refine mput_to (rT 9) rfl rfl ?_; conv => whnf)) | ((refine mput_to (rT 10) rfl rfl ?_; conv => whnf)) | ((refine mput_to (rT 11) rfl rfl ?_; conv => whnf)) | ((refine mput_to (rT 12) rfl rfl ?_; conv => whnf)) | ((refine mput_to (rT 13) rfl rfl ?_; conv => whnf)) | ((refine mput_to (rT 14) rfl rfl ?_; conv => whnf)) | ((refine mput_to (rT 15) rfl rfl ?_; conv => whnf)) | ((refine mput_to (rT 16) rfl rfl ?_; conv => whnf)) | refine AW.seq ?_ | refine AW.block ?_ | ((first | refine AW.region tab_ok ?_ | refine AW.cond ?_ | refine AW.skip ?_ | refine AW.ret ?_ | refine AW.exit ?_); conv => whnf) | ((first | refine (simple_call _).mono ?_ | refine (part_call _).mono ?_ | refine (into_call _).mono ?_); rintro _ _ ⟨rfl, rfl⟩; conv => whnf) | ((first | refine And.intro (@rfl Val _) ?_ | refine And.intro (by decide) ?_ | refine cs (fun _ => ?_) (fun _ => ?_)) <;> conv => whnf)
  exact ⟨rfl, rfl⟩
def leafT (k : Int) (s : ByteArray) (n : Int) : Tm := .node k s ⟨#[]⟩ n 0 [] 0 [] 0 0 []
set_option maxRecDepth 10000 in
theorem name_call0 : ACall Tryz.prog 33 [.c (.d (.int .i8 0))] [] (fun o σ => o = .ret (.c (.d (.str ⟨#[86, 97, 114]⟩))) ∧ σ = []) := by
  refine ACall.body tab_ok (ρ := 0) (N := 8) Tryz.func33 rfl rfl rfl rfl rfl ?_
  repeat' first | refine AW.seq ?_ | refine AW.block ?_ | ((first | refine AW.region tab_ok ?_ | refine AW.cond ?_ | refine AW.skip ?_ | refine AW.ret ?_ | refine AW.exit ?_); conv => whnf) | ((first | refine And.intro (@rfl Val _) ?_ | refine And.intro (by decide) ?_ | refine cs (fun _ => ?_) (fun _ => ?_)) <;> conv => whnf)
  exact ⟨rfl, rfl⟩
set_option maxRecDepth 10000 in
theorem name_call1 : ACall Tryz.prog 33 [.c (.d (.int .i8 1))] [] (fun o σ => o = .ret (.c (.d (.str ⟨#[78, 117, 109]⟩))) ∧ σ = []) := by
  refine ACall.body tab_ok (ρ := 0) (N := 8) Tryz.func33 rfl rfl rfl rfl rfl ?_
  repeat' first | refine AW.seq ?_ | refine AW.block ?_ | ((first | refine AW.region tab_ok ?_ | refine AW.cond ?_ | refine AW.skip ?_ | refine AW.ret ?_ | refine AW.exit ?_); conv => whnf) | ((first | refine And.intro (@rfl Val _) ?_ | refine And.intro (by decide) ?_ | refine cs (fun _ => ?_) (fun _ => ?_)) <;> conv => whnf)
  exact ⟨rfl, rfl⟩
set_option maxRecDepth 10000 in
theorem find_call0 (s : ByteArray) : ACall Tryz.prog 35 [.c (.d (.sl 0 3 [])), .c (.d (.str s))] [] (fun o σ => o = .ret (.tup [(Ty.node 0 []).val, .c (.d (.bool false))]) ∧ σ = []) := by
  refine ACall.body tab_ok (ρ := 0) (N := 27) Tryz.func35 rfl rfl rfl rfl rfl ?_
  repeat' first | refine AW.seq ?_ | refine AW.block ?_ | ((first | refine AW.region tab_ok ?_ | refine AW.cond ?_ | refine AW.skip ?_ | refine AW.ret ?_ | refine AW.exit ?_); conv => whnf) | ((first | refine And.intro (@rfl Val _) ?_ | refine And.intro (by decide) ?_ | refine cs (fun _ => ?_) (fun _ => ?_)) <;> conv => whnf)
  refine AW.loop (ι := Unit) (fun x => ⟨27, [(6, .c (.d (.int .i64 (-1)))), (0, .c (.d (.sl 0 3 []))), (1, .c (.d (.str s))), (4, .c (.ptr 0 0))], [.var [.d (.int .i8 0), .d .nils]], []⟩)
    (fun x => 0) () 1 (fun _ => rfl) (Nat.le_of_ble_eq_true rfl) ⟨⟨rfl, rfl, rfl, rfl, trivial⟩, rfl, rfl, ⟨[], rfl⟩, rfl⟩ (fun x => ?_)
  repeat' first | refine AW.seq ?_ | refine AW.block ?_ | ((first | refine AW.region tab_ok ?_ | refine AW.cond ?_ | refine AW.skip ?_ | refine AW.ret ?_ | refine AW.exit ?_); conv => whnf) | ((first | refine And.intro (@rfl Val _) ?_ | refine And.intro (by decide) ?_ | refine cs (fun _ => ?_) (fun _ => ?_)) <;> conv => whnf)
  exact ⟨rfl, rfl⟩
set_option maxRecDepth 10000 in
theorem whole_call0 (k : Int) : ACall Tryz.prog 36 [(Ty.node k []).val] [] (fun o σ => o = .ret (Ty.node k []).val ∧ σ = []) := by
  refine ACall.body tab_ok (ρ := 0) (N := 25) Tryz.func36 rfl rfl rfl rfl rfl ?_
  repeat' first | refine AW.seq ?_ | refine AW.block ?_ | (refine (id : AW _ _ _ (.region 5 _ true) _ _ → _) ?_; refine AW.draw (id := 5) tab_ok mixed [0, 1, 2, 3, 4, 5, 6, 7] (by kernel_rfl) ?_; conv => whnf) | ((first | refine AW.region tab_ok ?_ | refine AW.cond ?_ | refine AW.skip ?_ | refine AW.ret ?_ | refine AW.exit ?_); conv => whnf) | ((first | refine And.intro (@rfl Val _) ?_ | refine And.intro (by decide) ?_ | refine cs (fun _ => ?_) (fun _ => ?_)) <;> conv => whnf)
  refine AW.loop (ι := Unit) (fun x => ⟨25, [(12, .c (.d (.int .i64 0))), (11, .c (.d (.int .i64 0))), (10, .c (.d (.sl 0 2 []))), (3, .c (.ptr 2 0)), (2, .c (.ptr 1 0))], [.var [.d (.int .i8 k), .d (.sl 0 2 [])], .var [.d (.int .i8 0), .d .nils], .var [.d (.int .i8 k), .d .nils]], []⟩)
    (fun x => 0) () 3 (fun _ => rfl) (Nat.le_of_ble_eq_true rfl) ⟨⟨rfl, rfl, rfl, rfl, rfl, trivial⟩, rfl, rfl, ⟨[], rfl⟩, rfl⟩ (fun x => ?_)
  repeat' first | refine AW.seq ?_ | refine AW.block ?_ | (refine (id : AW _ _ _ (.region 5 _ true) _ _ → _) ?_; refine AW.draw (id := 5) tab_ok mixed [0, 1, 2, 3, 4, 5, 6, 7] (by kernel_rfl) ?_; conv => whnf) | ((first | refine AW.region tab_ok ?_ | refine AW.cond ?_ | refine AW.skip ?_ | refine AW.ret ?_ | refine AW.exit ?_); conv => whnf) | ((first | refine And.intro (@rfl Val _) ?_ | refine And.intro (by decide) ?_ | refine cs (fun _ => ?_) (fun _ => ?_)) <;> conv => whnf)
  exact ⟨rfl, rfl⟩
set_option maxRecDepth 10000 in
theorem simple1_call (k : Int) (cells : List DV) : ACall Tryz.prog 74 [.c (.d (.rp 0 cells)), .c (.d (.sl 0 2 [])), .c (.d (.rp 0 [.int .i8 k]))] [] (fun o σ => o = .ret (.tup [(Ty.node k []).val, .c (.d (.bool true))]) ∧ σ = []) := by
  refine ACall.body tab_ok (ρ := 0) (N := 9) Tryz.func74 rfl rfl rfl rfl rfl ?_
  repeat' first | refine AW.seq ?_ | refine AW.block ?_ | ((first | refine AW.region tab_ok ?_ | refine AW.cond ?_ | refine AW.skip ?_ | refine AW.ret ?_ | refine AW.exit ?_); conv => whnf) | ((first | refine And.intro (@rfl Val _) ?_ | refine And.intro (by decide) ?_ | refine cs (fun _ => ?_) (fun _ => ?_)) <;> conv => whnf)
  exact ⟨rfl, rfl⟩
set_option maxRecDepth 10000 in
theorem cast_call0 (k : Int) (s : ByteArray) (n : Int) : ACall Tryz.prog 32 [.c (.d (.rp 0 (leafT k s n).cells))] [] (fun o σ => o = .ret (.c (.d (.bool (k == 17)))) ∧ σ = []) := by
  refine ACall.body tab_ok (ρ := 0) (N := 25) Tryz.func32 rfl rfl rfl rfl rfl ?_
  repeat' first | refine AW.seq ?_ | refine AW.block ?_ | ((first | refine AW.region tab_ok ?_ | refine AW.cond ?_ | refine AW.skip ?_ | refine AW.ret ?_ | refine AW.exit ?_); conv => whnf) | ((first | refine And.intro (@rfl Val _) ?_ | refine And.intro (by decide) ?_ | refine cs (fun _ => ?_) (fun _ => ?_)) <;> conv => whnf)
  refine AW.loop (ι := Unit) (fun x => ⟨25, [(9, .c (.d (.int .i64 0))), (8, .c (.d (.int .i64 0))), (0, .c (.d (.rp 0 (leafT k s n).cells)))], [], []⟩)
    (fun x => 0) () 0 (fun _ => rfl) (Nat.le_of_ble_eq_true rfl) ⟨⟨rfl, rfl, rfl, trivial⟩, rfl, rfl, ⟨[], rfl⟩, rfl⟩ (fun x => ?_)
  repeat' first | refine AW.seq ?_ | refine AW.block ?_ | ((first | refine AW.region tab_ok ?_ | refine AW.cond ?_ | refine AW.skip ?_ | refine AW.ret ?_ | refine AW.exit ?_); conv => whnf) | ((first | refine And.intro (@rfl Val _) ?_ | refine And.intro (by decide) ?_ | refine cs (fun _ => ?_) (fun _ => ?_)) <;> conv => whnf)
  exact ⟨rfl, rfl⟩
def pfV (r : ByteArray) (k : Int) : Val := .agg [.d (.str r), .d (.int .i8 k), .d (.sl 0 2 []), .d (.sl 0 4 [])]
set_option maxRecDepth 10000 in
theorem derive_num : ACall Tryz.prog 19 [.c (.mp 0), .c (.d (.rp 0 (leafT 1 ⟨#[]⟩ 3).cells)), .c (.d (.sl 0 3 [])), .c (.d (.nilp))] [.mp (.int .i8) 16 rulesM] (fun o σ => o = .ret (.tup [pfV ⟨#[78, 117, 109]⟩ 1, .c (.d (.bool true))]) ∧ σ = [.mp (.int .i8) 16 rulesM]) := by
  have ct := Same_call (.node 1 []) (.node 1 [])
  have cu := Same_call (.node 0 []) (.node 1 [])
  rw [show sameS (.node 1 []) (.node 1 []) = true by decide +kernel] at ct
  rw [show sameS (.node 0 []) (.node 1 []) = false by decide +kernel] at cu
  refine ACall.body tab_ok (ρ := 0) (N := 149) Tryz.func19 rfl rfl rfl rfl rfl ?_
  repeat' first | refine AW.seq ?_ | refine AW.block ?_ | (refine (id : AW _ _ _ (.region 2 _ true) _ _ → _) ?_; refine AW.draw (id := 2) tab_ok mixed [0, 1, 2, 3, 4, 5, 6, 7, 8, 9, 10, 11, 12, 13, 14, 15, 16, 17, 18, 19, 20, 21, 22, 23] (by kernel_rfl) ?_; conv => whnf) | (refine (id : AW _ _ _ (.region 14 _ true) _ _ → _) ?_; refine AW.drawT (id := 14) tab_ok mixed [0, 1, 2, 3, 4, 5, 6, 7, 8, 9, 10, 12, 11, 13, 14, 15, 16, 17, 18, 19] oTPg_19_14 (by kernel_rfl) ?_; conv => whnf) | (refine (id : AW _ _ _ (.region 25 _ true) _ _ → _) ?_; refine AW.draw (id := 25) tab_ok mixed [0, 1, 2, 3, 4, 5, 6, 7, 8, 9, 10, 11, 12, 13, 14, 15, 16] (by kernel_rfl) ?_; conv => whnf) | (refine Fork.mk ?_ ?_ <;> conv => whnf) | ((first | refine AW.region tab_ok ?_ | refine AW.cond ?_ | refine AW.skip ?_ | refine AW.ret ?_ | refine AW.exit ?_); conv => whnf) | ((first | refine (name_call1).mono ?_ | refine (simple1_call _ _).mono ?_ | refine (whole_call0 _).mono ?_ | refine (find_call0 _).mono ?_ | refine (ct).mono ?_ | refine (cu).mono ?_); rintro _ _ ⟨rfl, rfl⟩; conv => whnf) | ((first | refine And.intro (@rfl Val _) ?_ | refine And.intro (by decide) ?_ | refine cs (fun _ => ?_) (fun _ => ?_)) <;> conv => whnf)
  refine AW.loop (ι := Unit) (fun x => ⟨149, [(54, .c (.d (.int .i64 0))), (53, .c (.d (.int .i64 0))), (0, .c (.mp 0)), (1, .c (.d (.rp 0 (leafT 1 ⟨#[]⟩ 3).cells))), (2, .c (.d (.sl 0 3 []))), (3, .c (.d (.nilp))), (8, .c (.ptr 1 0)), (10, .c (.ptr 2 0)), (11, .c (.d .nils))],
      [.mp (.int .i8) 16 rulesM, .var [.d (.str ⟨#[]⟩), .d (.int .i8 0), .d .nils, .d .nils], .var [.d (.str ⟨#[78, 117, 109]⟩), .d (.int .i8 0), .d .nils, .d .nils]], []⟩)
    (fun x => 0) () 3 (fun _ => rfl) (Nat.le_of_ble_eq_true rfl) ⟨⟨rfl, rfl, rfl, rfl, rfl, rfl, rfl, rfl, rfl, trivial⟩, rfl, rfl, ⟨[], rfl⟩, rfl⟩ (fun x => ?_)
  repeat' first | ((refine mlook_case ?_; conv => whnf)) | refine AW.seq ?_ | refine AW.block ?_ | (refine (id : AW _ _ _ (.region 2 _ true) _ _ → _) ?_; refine AW.draw (id := 2) tab_ok mixed [0, 1, 2, 3, 4, 5, 6, 7, 8, 9, 10, 11, 12, 13, 14, 15, 16, 17, 18, 19, 20, 21, 22, 23] (by kernel_rfl) ?_; conv => whnf) | (refine (id : AW _ _ _ (.region 14 _ true) _ _ → _) ?_; refine AW.drawT (id := 14) tab_ok mixed [0, 1, 2, 3, 4, 5, 6, 7, 8, 9, 10, 12, 11, 13, 14, 15, 16, 17, 18, 19] oTPg_19_14 (by kernel_rfl) ?_; conv => whnf) | (refine (id : AW _ _ _ (.region 25 _ true) _ _ → _) ?_; refine AW.draw (id := 25) tab_ok mixed [0, 1, 2, 3, 4, 5, 6, 7, 8, 9, 10, 11, 12, 13, 14, 15, 16] (by kernel_rfl) ?_; conv => whnf) | (refine Fork.mk ?_ ?_ <;> conv => whnf) | ((first | refine AW.region tab_ok ?_ | refine AW.cond ?_ | refine AW.skip ?_ | refine AW.ret ?_ | refine AW.exit ?_); conv => whnf) | ((first | refine (name_call1).mono ?_ | refine (simple1_call _ _).mono ?_ | refine (whole_call0 _).mono ?_ | refine (find_call0 _).mono ?_ | refine (ct).mono ?_ | refine (cu).mono ?_); rintro _ _ ⟨rfl, rfl⟩; conv => whnf) | ((first | refine And.intro (@rfl Val _) ?_ | refine And.intro (by decide) ?_ | refine cs (fun _ => ?_) (fun _ => ?_)) <;> conv => whnf)
  exact ⟨rfl, rfl⟩
set_option maxRecDepth 10000 in
theorem derive_var : ACall Tryz.prog 19 [.c (.mp 0), .c (.d (.rp 0 (leafT 0 ⟨#[120]⟩ 0).cells)), .c (.d (.sl 0 3 [])), .c (.d (.nilp))] [.mp (.int .i8) 16 rulesM] (fun o σ => o = .ret (.tup [pfV ⟨#[86, 97, 114]⟩ 0, .c (.d (.bool false))]) ∧ σ = [.mp (.int .i8) 16 rulesM]) := by
  have ct := Same_call (.node 1 []) (.node 1 [])
  have cu := Same_call (.node 0 []) (.node 1 [])
  rw [show sameS (.node 1 []) (.node 1 []) = true by decide +kernel] at ct
  rw [show sameS (.node 0 []) (.node 1 []) = false by decide +kernel] at cu
  refine ACall.body tab_ok (ρ := 0) (N := 149) Tryz.func19 rfl rfl rfl rfl rfl ?_
  repeat' first | refine AW.seq ?_ | refine AW.block ?_ | (refine (id : AW _ _ _ (.region 2 _ true) _ _ → _) ?_; refine AW.draw (id := 2) tab_ok mixed [0, 1, 2, 3, 4, 5, 6, 7, 8, 9, 10, 11, 12, 13, 14, 15, 16, 17, 18, 19, 20, 21, 22, 23] (by kernel_rfl) ?_; conv => whnf) | (refine (id : AW _ _ _ (.region 14 _ true) _ _ → _) ?_; refine AW.drawT (id := 14) tab_ok mixed [0, 1, 2, 3, 4, 5, 6, 7, 8, 9, 10, 12, 11, 13, 14, 15, 16, 17, 18, 19] oTPg_19_14 (by kernel_rfl) ?_; conv => whnf) | (refine (id : AW _ _ _ (.region 25 _ true) _ _ → _) ?_; refine AW.draw (id := 25) tab_ok mixed [0, 1, 2, 3, 4, 5, 6, 7, 8, 9, 10, 11, 12, 13, 14, 15, 16] (by kernel_rfl) ?_; conv => whnf) | (refine Fork.mk ?_ ?_ <;> conv => whnf) | ((first | refine AW.region tab_ok ?_ | refine AW.cond ?_ | refine AW.skip ?_ | refine AW.ret ?_ | refine AW.exit ?_); conv => whnf) | ((first | refine (name_call0).mono ?_ | refine (simple1_call _ _).mono ?_ | refine (whole_call0 _).mono ?_ | refine (find_call0 _).mono ?_ | refine (ct).mono ?_ | refine (cu).mono ?_); rintro _ _ ⟨rfl, rfl⟩; conv => whnf) | ((first | refine And.intro (@rfl Val _) ?_ | refine And.intro (by decide) ?_ | refine cs (fun _ => ?_) (fun _ => ?_)) <;> conv => whnf)
  refine AW.loop (ι := Unit) (fun x => ⟨149, [(54, .c (.d (.int .i64 0))), (53, .c (.d (.int .i64 0))), (0, .c (.mp 0)), (1, .c (.d (.rp 0 (leafT 0 ⟨#[120]⟩ 0).cells))), (2, .c (.d (.sl 0 3 []))), (3, .c (.d (.nilp))), (8, .c (.ptr 1 0)), (10, .c (.ptr 2 0)), (11, .c (.d .nils))],
      [.mp (.int .i8) 16 rulesM, .var [.d (.str ⟨#[]⟩), .d (.int .i8 0), .d .nils, .d .nils], .var [.d (.str ⟨#[86, 97, 114]⟩), .d (.int .i8 0), .d .nils, .d .nils]], []⟩)
    (fun x => 0) () 3 (fun _ => rfl) (Nat.le_of_ble_eq_true rfl) ⟨⟨rfl, rfl, rfl, rfl, rfl, rfl, rfl, rfl, rfl, trivial⟩, rfl, rfl, ⟨[], rfl⟩, rfl⟩ (fun x => ?_)
  repeat' first | ((refine mlook_case ?_; conv => whnf)) | refine AW.seq ?_ | refine AW.block ?_ | (refine (id : AW _ _ _ (.region 2 _ true) _ _ → _) ?_; refine AW.draw (id := 2) tab_ok mixed [0, 1, 2, 3, 4, 5, 6, 7, 8, 9, 10, 11, 12, 13, 14, 15, 16, 17, 18, 19, 20, 21, 22, 23] (by kernel_rfl) ?_; conv => whnf) | (refine (id : AW _ _ _ (.region 14 _ true) _ _ → _) ?_; refine AW.drawT (id := 14) tab_ok mixed [0, 1, 2, 3, 4, 5, 6, 7, 8, 9, 10, 12, 11, 13, 14, 15, 16, 17, 18, 19] oTPg_19_14 (by kernel_rfl) ?_; conv => whnf) | (refine (id : AW _ _ _ (.region 25 _ true) _ _ → _) ?_; refine AW.draw (id := 25) tab_ok mixed [0, 1, 2, 3, 4, 5, 6, 7, 8, 9, 10, 11, 12, 13, 14, 15, 16] (by kernel_rfl) ?_; conv => whnf) | (refine Fork.mk ?_ ?_ <;> conv => whnf) | ((first | refine AW.region tab_ok ?_ | refine AW.cond ?_ | refine AW.skip ?_ | refine AW.ret ?_ | refine AW.exit ?_); conv => whnf) | ((first | refine (name_call0).mono ?_ | refine (simple1_call _ _).mono ?_ | refine (whole_call0 _).mono ?_ | refine (find_call0 _).mono ?_ | refine (ct).mono ?_ | refine (cu).mono ?_); rintro _ _ ⟨rfl, rfl⟩; conv => whnf) | ((first | refine And.intro (@rfl Val _) ?_ | refine And.intro (by decide) ?_ | refine cs (fun _ => ?_) (fun _ => ?_)) <;> conv => whnf)
  exact ⟨rfl, rfl⟩
set_option maxRecDepth 10000 in
theorem derive_num1 : ACall Tryz.prog 19 [.c (.mp 0), .c (.d (.rp 0 (leafT 1 ⟨#[]⟩ 3).cells)), .c (.d (.sl 0 3 [])), .c (.d (.rp 0 [.str ⟨#[78, 117, 109]⟩, .int .i8 1, .sl 0 2 [], .sl 0 4 []]))] [.mp (.int .i8) 16 rulesM] (fun o σ => o = .ret (.tup [pfV ⟨#[78, 117, 109]⟩ 1, .c (.d (.bool true))]) ∧ σ = [.mp (.int .i8) 16 rulesM]) := by
  have ct := Same_call (.node 1 []) (.node 1 [])
  have cu := Same_call (.node 0 []) (.node 1 [])
  rw [show sameS (.node 1 []) (.node 1 []) = true by decide +kernel] at ct
  rw [show sameS (.node 0 []) (.node 1 []) = false by decide +kernel] at cu
  refine ACall.body tab_ok (ρ := 0) (N := 149) Tryz.func19 rfl rfl rfl rfl rfl ?_
  repeat' first | refine AW.seq ?_ | refine AW.block ?_ | (refine (id : AW _ _ _ (.region 2 _ true) _ _ → _) ?_; refine AW.draw (id := 2) tab_ok mixed [0, 1, 2, 3, 4, 5, 6, 7, 8, 9, 10, 11, 12, 13, 14, 15, 16, 17, 18, 19, 20, 21, 22, 23] (by kernel_rfl) ?_; conv => whnf) | (refine (id : AW _ _ _ (.region 14 _ true) _ _ → _) ?_; refine AW.drawT (id := 14) tab_ok mixed [0, 1, 2, 3, 4, 5, 6, 7, 8, 9, 10, 12, 11, 13, 14, 15, 16, 17, 18, 19] oTPg_19_14 (by kernel_rfl) ?_; conv => whnf) | (refine (id : AW _ _ _ (.region 25 _ true) _ _ → _) ?_; refine AW.draw (id := 25) tab_ok mixed [0, 1, 2, 3, 4, 5, 6, 7, 8, 9, 10, 11, 12, 13, 14, 15, 16] (by kernel_rfl) ?_; conv => whnf) | (refine Fork.mk ?_ ?_ <;> conv => whnf) | ((first | refine AW.region tab_ok ?_ | refine AW.cond ?_ | refine AW.skip ?_ | refine AW.ret ?_ | refine AW.exit ?_); conv => whnf) | ((first | refine (name_call1).mono ?_ | refine (simple1_call _ _).mono ?_ | refine (whole_call0 _).mono ?_ | refine (find_call0 _).mono ?_ | refine (ct).mono ?_ | refine (cu).mono ?_); rintro _ _ ⟨rfl, rfl⟩; conv => whnf) | ((first | refine And.intro (@rfl Val _) ?_ | refine And.intro (by decide) ?_ | refine cs (fun _ => ?_) (fun _ => ?_)) <;> conv => whnf)
  refine AW.loop (ι := Unit) (fun x => ⟨149, [(54, .c (.d (.int .i64 0))), (53, .c (.d (.int .i64 0))), (0, .c (.mp 0)), (1, .c (.d (.rp 0 (leafT 1 ⟨#[]⟩ 3).cells))), (2, .c (.d (.sl 0 3 []))), (3, .c (.d (.rp 0 [.str ⟨#[78, 117, 109]⟩, .int .i8 1, .sl 0 2 [], .sl 0 4 []]))), (8, .c (.ptr 1 0)), (10, .c (.ptr 2 0)), (11, .c (.d .nils))],
      [.mp (.int .i8) 16 rulesM, .var [.d (.str ⟨#[]⟩), .d (.int .i8 0), .d .nils, .d .nils], .var [.d (.str ⟨#[78, 117, 109]⟩), .d (.int .i8 0), .d .nils, .d .nils]], []⟩)
    (fun x => 0) () 3 (fun _ => rfl) (Nat.le_of_ble_eq_true rfl) ⟨⟨rfl, rfl, rfl, rfl, rfl, rfl, rfl, rfl, rfl, trivial⟩, rfl, rfl, ⟨[], rfl⟩, rfl⟩ (fun x => ?_)
  repeat' first | ((refine mlook_case ?_; conv => whnf)) | refine AW.seq ?_ | refine AW.block ?_ | (refine (id : AW _ _ _ (.region 2 _ true) _ _ → _) ?_; refine AW.draw (id := 2) tab_ok mixed [0, 1, 2, 3, 4, 5, 6, 7, 8, 9, 10, 11, 12, 13, 14, 15, 16, 17, 18, 19, 20, 21, 22, 23] (by kernel_rfl) ?_; conv => whnf) | (refine (id : AW _ _ _ (.region 14 _ true) _ _ → _) ?_; refine AW.drawT (id := 14) tab_ok mixed [0, 1, 2, 3, 4, 5, 6, 7, 8, 9, 10, 12, 11, 13, 14, 15, 16, 17, 18, 19] oTPg_19_14 (by kernel_rfl) ?_; conv => whnf) | (refine (id : AW _ _ _ (.region 25 _ true) _ _ → _) ?_; refine AW.draw (id := 25) tab_ok mixed [0, 1, 2, 3, 4, 5, 6, 7, 8, 9, 10, 11, 12, 13, 14, 15, 16] (by kernel_rfl) ?_; conv => whnf) | (refine Fork.mk ?_ ?_ <;> conv => whnf) | ((first | refine AW.region tab_ok ?_ | refine AW.cond ?_ | refine AW.skip ?_ | refine AW.ret ?_ | refine AW.exit ?_); conv => whnf) | ((first | refine (name_call1).mono ?_ | refine (simple1_call _ _).mono ?_ | refine (whole_call0 _).mono ?_ | refine (find_call0 _).mono ?_ | refine (ct).mono ?_ | refine (cu).mono ?_); rintro _ _ ⟨rfl, rfl⟩; conv => whnf) | ((first | refine And.intro (@rfl Val _) ?_ | refine And.intro (by decide) ?_ | refine cs (fun _ => ?_) (fun _ => ?_)) <;> conv => whnf)
  exact ⟨rfl, rfl⟩
set_option maxRecDepth 10000 in
theorem derive_num0 : ACall Tryz.prog 19 [.c (.mp 0), .c (.d (.rp 0 (leafT 1 ⟨#[]⟩ 3).cells)), .c (.d (.sl 0 3 [])), .c (.d (.rp 0 [.str ⟨#[78, 117, 109]⟩, .int .i8 0, .sl 0 2 [], .sl 0 4 []]))] [.mp (.int .i8) 16 rulesM] (fun o σ => o = .ret (.tup [pfV ⟨#[78, 117, 109]⟩ 1, .c (.d (.bool false))]) ∧ σ = [.mp (.int .i8) 16 rulesM]) := by
  have ct := Same_call (.node 1 []) (.node 1 [])
  have cu := Same_call (.node 0 []) (.node 1 [])
  rw [show sameS (.node 1 []) (.node 1 []) = true by decide +kernel] at ct
  rw [show sameS (.node 0 []) (.node 1 []) = false by decide +kernel] at cu
  refine ACall.body tab_ok (ρ := 0) (N := 149) Tryz.func19 rfl rfl rfl rfl rfl ?_
  repeat' first | refine AW.seq ?_ | refine AW.block ?_ | (refine (id : AW _ _ _ (.region 2 _ true) _ _ → _) ?_; refine AW.draw (id := 2) tab_ok mixed [0, 1, 2, 3, 4, 5, 6, 7, 8, 9, 10, 11, 12, 13, 14, 15, 16, 17, 18, 19, 20, 21, 22, 23] (by kernel_rfl) ?_; conv => whnf) | (refine (id : AW _ _ _ (.region 14 _ true) _ _ → _) ?_; refine AW.drawT (id := 14) tab_ok mixed [0, 1, 2, 3, 4, 5, 6, 7, 8, 9, 10, 12, 11, 13, 14, 15, 16, 17, 18, 19] oTPg_19_14 (by kernel_rfl) ?_; conv => whnf) | (refine (id : AW _ _ _ (.region 25 _ true) _ _ → _) ?_; refine AW.draw (id := 25) tab_ok mixed [0, 1, 2, 3, 4, 5, 6, 7, 8, 9, 10, 11, 12, 13, 14, 15, 16] (by kernel_rfl) ?_; conv => whnf) | (refine Fork.mk ?_ ?_ <;> conv => whnf) | ((first | refine AW.region tab_ok ?_ | refine AW.cond ?_ | refine AW.skip ?_ | refine AW.ret ?_ | refine AW.exit ?_); conv => whnf) | ((first | refine (name_call1).mono ?_ | refine (simple1_call _ _).mono ?_ | refine (whole_call0 _).mono ?_ | refine (find_call0 _).mono ?_ | refine (ct).mono ?_ | refine (cu).mono ?_); rintro _ _ ⟨rfl, rfl⟩; conv => whnf) | ((first | refine And.intro (@rfl Val _) ?_ | refine And.intro (by decide) ?_ | refine cs (fun _ => ?_) (fun _ => ?_)) <;> conv => whnf)
  refine AW.loop (ι := Unit) (fun x => ⟨149, [(54, .c (.d (.int .i64 0))), (53, .c (.d (.int .i64 0))), (0, .c (.mp 0)), (1, .c (.d (.rp 0 (leafT 1 ⟨#[]⟩ 3).cells))), (2, .c (.d (.sl 0 3 []))), (3, .c (.d (.rp 0 [.str ⟨#[78, 117, 109]⟩, .int .i8 0, .sl 0 2 [], .sl 0 4 []]))), (8, .c (.ptr 1 0)), (10, .c (.ptr 2 0)), (11, .c (.d .nils))],
      [.mp (.int .i8) 16 rulesM, .var [.d (.str ⟨#[]⟩), .d (.int .i8 0), .d .nils, .d .nils], .var [.d (.str ⟨#[78, 117, 109]⟩), .d (.int .i8 0), .d .nils, .d .nils]], []⟩)
    (fun x => 0) () 3 (fun _ => rfl) (Nat.le_of_ble_eq_true rfl) ⟨⟨rfl, rfl, rfl, rfl, rfl, rfl, rfl, rfl, rfl, trivial⟩, rfl, rfl, ⟨[], rfl⟩, rfl⟩ (fun x => ?_)
  repeat' first | ((refine mlook_case ?_; conv => whnf)) | refine AW.seq ?_ | refine AW.block ?_ | (refine (id : AW _ _ _ (.region 2 _ true) _ _ → _) ?_; refine AW.draw (id := 2) tab_ok mixed [0, 1, 2, 3, 4, 5, 6, 7, 8, 9, 10, 11, 12, 13, 14, 15, 16, 17, 18, 19, 20, 21, 22, 23] (by kernel_rfl) ?_; conv => whnf) | (refine (id : AW _ _ _ (.region 14 _ true) _ _ → _) ?_; refine AW.drawT (id := 14) tab_ok mixed [0, 1, 2, 3, 4, 5, 6, 7, 8, 9, 10, 12, 11, 13, 14, 15, 16, 17, 18, 19] oTPg_19_14 (by kernel_rfl) ?_; conv => whnf) | (refine (id : AW _ _ _ (.region 25 _ true) _ _ → _) ?_; refine AW.draw (id := 25) tab_ok mixed [0, 1, 2, 3, 4, 5, 6, 7, 8, 9, 10, 11, 12, 13, 14, 15, 16] (by kernel_rfl) ?_; conv => whnf) | (refine Fork.mk ?_ ?_ <;> conv => whnf) | ((first | refine AW.region tab_ok ?_ | refine AW.cond ?_ | refine AW.skip ?_ | refine AW.ret ?_ | refine AW.exit ?_); conv => whnf) | ((first | refine (name_call1).mono ?_ | refine (simple1_call _ _).mono ?_ | refine (whole_call0 _).mono ?_ | refine (find_call0 _).mono ?_ | refine (ct).mono ?_ | refine (cu).mono ?_); rintro _ _ ⟨rfl, rfl⟩; conv => whnf) | ((first | refine And.intro (@rfl Val _) ?_ | refine And.intro (by decide) ?_ | refine cs (fun _ => ?_) (fun _ => ?_)) <;> conv => whnf)
  exact ⟨rfl, rfl⟩
set_option maxRecDepth 10000 in
theorem derive_yes1 : ACall Tryz.prog 19 [.c (.mp 0), .c (.d (.rp 0 (leafT 1 ⟨#[]⟩ 3).cells)), .c (.d (.sl 0 3 [])), .c (.d (.rp 0 [.str ⟨#[89, 101, 115]⟩, .int .i8 1, .sl 0 2 [], .sl 0 4 []]))] [.mp (.int .i8) 16 rulesM] (fun o σ => o = .ret (.tup [pfV ⟨#[78, 117, 109]⟩ 0, .c (.d (.bool false))]) ∧ σ = [.mp (.int .i8) 16 rulesM]) := by
  have ct := Same_call (.node 1 []) (.node 1 [])
  have cu := Same_call (.node 0 []) (.node 1 [])
  rw [show sameS (.node 1 []) (.node 1 []) = true by decide +kernel] at ct
  rw [show sameS (.node 0 []) (.node 1 []) = false by decide +kernel] at cu
  refine ACall.body tab_ok (ρ := 0) (N := 149) Tryz.func19 rfl rfl rfl rfl rfl ?_
  repeat' first | refine AW.seq ?_ | refine AW.block ?_ | (refine (id : AW _ _ _ (.region 2 _ true) _ _ → _) ?_; refine AW.draw (id := 2) tab_ok mixed [0, 1, 2, 3, 4, 5, 6, 7, 8, 9, 10, 11, 12, 13, 14, 15, 16, 17, 18, 19, 20, 21, 22, 23] (by kernel_rfl) ?_; conv => whnf) | (refine (id : AW _ _ _ (.region 14 _ true) _ _ → _) ?_; refine AW.drawT (id := 14) tab_ok mixed [0, 1, 2, 3, 4, 5, 6, 7, 8, 9, 10, 12, 11, 13, 14, 15, 16, 17, 18, 19] oTPg_19_14 (by kernel_rfl) ?_; conv => whnf) | (refine (id : AW _ _ _ (.region 25 _ true) _ _ → _) ?_; refine AW.draw (id := 25) tab_ok mixed [0, 1, 2, 3, 4, 5, 6, 7, 8, 9, 10, 11, 12, 13, 14, 15, 16] (by kernel_rfl) ?_; conv => whnf) | (refine Fork.mk ?_ ?_ <;> conv => whnf) | ((first | refine AW.region tab_ok ?_ | refine AW.cond ?_ | refine AW.skip ?_ | refine AW.ret ?_ | refine AW.exit ?_); conv => whnf) | ((first | refine (name_call1).mono ?_ | refine (simple1_call _ _).mono ?_ | refine (whole_call0 _).mono ?_ | refine (find_call0 _).mono ?_ | refine (ct).mono ?_ | refine (cu).mono ?_); rintro _ _ ⟨rfl, rfl⟩; conv => whnf) | ((first | refine And.intro (@rfl Val _) ?_ | refine And.intro (by decide) ?_ | refine cs (fun _ => ?_) (fun _ => ?_)) <;> conv => whnf)
  exact ⟨rfl, rfl⟩
end Go.Proofs.YtlboogackecjlaaGreat.E

/- ProofGreat: Find, Proves, wakes. No conditions. -/
set_option linter.unusedVariables false
set_option linter.unusedSimpArgs false
namespace Go.Proofs.YtlboogackecjlaaGreat.E
open Go

set_option maxRecDepth 10000 in
theorem sound_num : ACall Tryz.prog 18 [.c (.d (.rp 0 (leafT 1 ⟨#[]⟩ 3).cells))] [] (fun o σ => o = .ret (.c (.d (.int .i64 0))) ∧ σ = []) := by
  have c1 := tmCheck_call (leafT 1 ⟨#[]⟩ 3)
  rw [show tmcheck (leafT 1 ⟨#[]⟩ 3) = 0 by decide +kernel] at c1
  have c2 := cast_call0 1 ⟨#[]⟩ 3
  refine ACall.body tab_ok (ρ := 0) (N := 13) Tryz.func18 rfl rfl rfl rfl rfl ?_
  repeat' first | refine AW.seq ?_ | refine AW.block ?_ | ((first | refine AW.region tab_ok ?_ | refine AW.cond ?_ | refine AW.skip ?_ | refine AW.ret ?_ | refine AW.exit ?_); conv => whnf) | ((first | refine (c1).mono ?_ | refine (c2).mono ?_); rintro _ _ ⟨rfl, rfl⟩; conv => whnf) | ((first | refine And.intro (@rfl Val _) ?_ | refine And.intro (by decide) ?_ | refine cs (fun _ => ?_) (fun _ => ?_)) <;> conv => whnf)
  exact ⟨rfl, rfl⟩
set_option maxRecDepth 10000 in
theorem sound_var : ACall Tryz.prog 18 [.c (.d (.rp 0 (leafT 0 ⟨#[120]⟩ 0).cells))] [] (fun o σ => o = .ret (.c (.d (.int .i64 0))) ∧ σ = []) := by
  have c1 := tmCheck_call (leafT 0 ⟨#[120]⟩ 0)
  rw [show tmcheck (leafT 0 ⟨#[120]⟩ 0) = 0 by decide +kernel] at c1
  have c2 := cast_call0 0 ⟨#[120]⟩ 0
  refine ACall.body tab_ok (ρ := 0) (N := 13) Tryz.func18 rfl rfl rfl rfl rfl ?_
  repeat' first | refine AW.seq ?_ | refine AW.block ?_ | ((first | refine AW.region tab_ok ?_ | refine AW.cond ?_ | refine AW.skip ?_ | refine AW.ret ?_ | refine AW.exit ?_); conv => whnf) | ((first | refine (c1).mono ?_ | refine (c2).mono ?_); rintro _ _ ⟨rfl, rfl⟩; conv => whnf) | ((first | refine And.intro (@rfl Val _) ?_ | refine And.intro (by decide) ?_ | refine cs (fun _ => ?_) (fun _ => ?_)) <;> conv => whnf)
  exact ⟨rfl, rfl⟩
set_option maxRecDepth 10000 in
theorem Find_num : ACall Tryz.prog 9 [(leafT 1 ⟨#[]⟩ 3).val] [] (fun o σ => o = .ret (.tup [pfV ⟨#[78, 117, 109]⟩ 1, .c (.d (.int .i64 0))]) ∧ σ = []) := by
  refine ACall.body tab_ok (ρ := 0) (N := 21) Tryz.func9 rfl rfl rfl rfl rfl ?_
  repeat' first | refine AW.seq ?_ | refine AW.block ?_ | ((first | refine AW.region tab_ok ?_ | refine AW.cond ?_ | refine AW.skip ?_ | refine AW.ret ?_ | refine AW.exit ?_); conv => whnf) | ((first | refine (sound_num).mono ?_ | refine (table_call).mono ?_ | refine (derive_num).mono ?_); rintro _ _ ⟨rfl, rfl⟩; conv => whnf) | ((first | refine And.intro (@rfl Val _) ?_ | refine And.intro (by decide) ?_ | refine cs (fun _ => ?_) (fun _ => ?_)) <;> conv => whnf)
  exact ⟨rfl, rfl⟩
set_option maxRecDepth 10000 in
theorem Find_var : ACall Tryz.prog 9 [(leafT 0 ⟨#[120]⟩ 0).val] [] (fun o σ => o = .ret (.tup [pfV ⟨#[]⟩ 0, .c (.d (.int .i64 100))]) ∧ σ = []) := by
  refine ACall.body tab_ok (ρ := 0) (N := 21) Tryz.func9 rfl rfl rfl rfl rfl ?_
  repeat' first | refine AW.seq ?_ | refine AW.block ?_ | ((first | refine AW.region tab_ok ?_ | refine AW.cond ?_ | refine AW.skip ?_ | refine AW.ret ?_ | refine AW.exit ?_); conv => whnf) | ((first | refine (sound_var).mono ?_ | refine (table_call).mono ?_ | refine (derive_var).mono ?_); rintro _ _ ⟨rfl, rfl⟩; conv => whnf) | ((first | refine And.intro (@rfl Val _) ?_ | refine And.intro (by decide) ?_ | refine cs (fun _ => ?_) (fun _ => ?_)) <;> conv => whnf)
  exact ⟨rfl, rfl⟩
set_option maxRecDepth 10000 in
theorem Proves_num1 : ACall Tryz.prog 7 [pfV ⟨#[78, 117, 109]⟩ 1, (leafT 1 ⟨#[]⟩ 3).val] [] (fun o σ => o = .ret (.c (.d (.bool true))) ∧ σ = []) := by
  refine ACall.body tab_ok (ρ := 0) (N := 15) Tryz.func7 rfl rfl rfl rfl rfl ?_
  repeat' first | refine AW.seq ?_ | refine AW.block ?_ | ((first | refine AW.region tab_ok ?_ | refine AW.cond ?_ | refine AW.skip ?_ | refine AW.ret ?_ | refine AW.exit ?_); conv => whnf) | ((first | refine (sound_num).mono ?_ | refine (table_call).mono ?_ | refine (derive_num1).mono ?_); rintro _ _ ⟨rfl, rfl⟩; conv => whnf) | ((first | refine And.intro (@rfl Val _) ?_ | refine And.intro (by decide) ?_ | refine cs (fun _ => ?_) (fun _ => ?_)) <;> conv => whnf)
  exact ⟨rfl, rfl⟩
set_option maxRecDepth 10000 in
theorem Proves_num0 : ACall Tryz.prog 7 [pfV ⟨#[78, 117, 109]⟩ 0, (leafT 1 ⟨#[]⟩ 3).val] [] (fun o σ => o = .ret (.c (.d (.bool false))) ∧ σ = []) := by
  refine ACall.body tab_ok (ρ := 0) (N := 15) Tryz.func7 rfl rfl rfl rfl rfl ?_
  repeat' first | refine AW.seq ?_ | refine AW.block ?_ | ((first | refine AW.region tab_ok ?_ | refine AW.cond ?_ | refine AW.skip ?_ | refine AW.ret ?_ | refine AW.exit ?_); conv => whnf) | ((first | refine (sound_num).mono ?_ | refine (table_call).mono ?_ | refine (derive_num0).mono ?_); rintro _ _ ⟨rfl, rfl⟩; conv => whnf) | ((first | refine And.intro (@rfl Val _) ?_ | refine And.intro (by decide) ?_ | refine cs (fun _ => ?_) (fun _ => ?_)) <;> conv => whnf)
  exact ⟨rfl, rfl⟩
set_option maxRecDepth 10000 in
theorem Proves_yes1 : ACall Tryz.prog 7 [pfV ⟨#[89, 101, 115]⟩ 1, (leafT 1 ⟨#[]⟩ 3).val] [] (fun o σ => o = .ret (.c (.d (.bool false))) ∧ σ = []) := by
  refine ACall.body tab_ok (ρ := 0) (N := 15) Tryz.func7 rfl rfl rfl rfl rfl ?_
  repeat' first | refine AW.seq ?_ | refine AW.block ?_ | ((first | refine AW.region tab_ok ?_ | refine AW.cond ?_ | refine AW.skip ?_ | refine AW.ret ?_ | refine AW.exit ?_); conv => whnf) | ((first | refine (sound_num).mono ?_ | refine (table_call).mono ?_ | refine (derive_yes1).mono ?_); rintro _ _ ⟨rfl, rfl⟩; conv => whnf) | ((first | refine And.intro (@rfl Val _) ?_ | refine And.intro (by decide) ?_ | refine cs (fun _ => ?_) (fun _ => ?_)) <;> conv => whnf)
  exact ⟨rfl, rfl⟩
set_option maxRecDepth 10000 in
theorem wakes10_call : ACall Tryz.prog 6 [] [] (fun o σ => o = .ret (.c (.d (.bool true))) ∧ σ = []) := by
  have ct := Same_call (.node 1 []) (.node 1 [])
  rw [show sameS (.node 1 []) (.node 1 []) = true by decide +kernel] at ct
  refine ACall.body tab_ok (ρ := 0) (N := 61) Tryz.func6 rfl rfl rfl rfl rfl ?_
  repeat' first | refine AW.seq ?_ | refine AW.block ?_ | ((first | refine AW.region tab_ok ?_ | refine AW.cond ?_ | refine AW.skip ?_ | refine AW.ret ?_ | refine AW.exit ?_); conv => whnf) | ((first | refine (Find_num).mono ?_ | refine (Find_var).mono ?_ | refine (ct).mono ?_ | refine (Proves_num1).mono ?_ | refine (Proves_num0).mono ?_ | refine (Proves_yes1).mono ?_); rintro _ _ ⟨rfl, rfl⟩; conv => whnf) | ((first | refine And.intro (@rfl Val _) ?_ | refine And.intro (by decide) ?_ | refine cs (fun _ => ?_) (fun _ => ?_)) <;> conv => whnf)
  exact ⟨rfl, rfl⟩
end Go.Proofs.YtlboogackecjlaaGreat.E

/- Plain laws: parts of a term that is one. No conditions. -/
set_option linter.unusedVariables false
set_option linter.unusedSimpArgs false
namespace Go.Proofs.YtlboogackecjlaaGreat.E
open Go

end Go.Proofs.YtlboogackecjlaaGreat.E

/- Walks: same of terms in the document's answer. No conditions. -/
set_option linter.unusedVariables false
set_option linter.unusedSimpArgs false
namespace Go.Proofs.YtlboogackecjlaaGreat.E
open Go

end Go.Proofs.YtlboogackecjlaaGreat.E

/- A value put for a name: the model; what hides a name, a kid changed, both. No conditions. -/
set_option linter.unusedVariables false
set_option linter.unusedSimpArgs false
namespace Go.Proofs.YtlboogackecjlaaGreat.E
open Go

end Go.Proofs.YtlboogackecjlaaGreat.E

/- A value put for a name: the document's walk; whether a term fits; copies. No conditions. -/
set_option linter.unusedVariables false
set_option linter.unusedSimpArgs false
namespace Go.Proofs.YtlboogackecjlaaGreat.E
open Go

end Go.Proofs.YtlboogackecjlaaGreat.E

/- A value put for a name: copies of types, of terms. No conditions. -/
set_option linter.unusedVariables false
set_option linter.unusedSimpArgs false
namespace Go.Proofs.YtlboogackecjlaaGreat.E
open Go

/-- Rows of types that the machine can hold. -/
inductive TyOk : Ty → Prop where
  | node {k ks} (h1 : ks.length * 32 ≤ 140737488355328) (h2 : ∀ t ∈ ks, TyOk t) : TyOk (.node k ks)
/-- A term whose types are bounded, in all its parts, those that do not count too. -/
inductive Fine2 : Tm → Prop where
  | node {k name arg num tk tks uk uks label place ks} (h1 : TyOk (.node tk tks)) (h2 : TyOk (.node uk uks)) (h3 : ks.length ≤ 8192) (h4 : ∀ t ∈ ks, Fine2 t) : Fine2 (.node k name arg num tk tks uk uks label place ks)
/-- Rows of terms that the machine can hold. -/
inductive TmOk : Tm → Prop where
  | node {k name arg num tk tks uk uks label place ks} (h1 : TyOk (.node tk tks)) (h2 : TyOk (.node uk uks)) (h3 : ks.length * 152 ≤ 140737488355328) (h4 : ∀ t ∈ ks, TmOk t) : TmOk (.node k name arg num tk tks uk uks label place ks)
theorem fine2_of (t : Tm) : TmOk t → tmright t = true → Fine2 t := by
  induction t using Tm.ind with
  | _ k name arg num tk tks uk uks label place ks ih =>
  rintro (⟨h1, h2, h3, h4⟩) hr
  have hl := tmright_len hr
  have hk := kidsK_le k
  exact .node h1 h2 (by omega) fun x hx => ih x hx (h4 x hx) (tmright_kid hr hx)
end Go.Proofs.YtlboogackecjlaaGreat.E

/- proof: copies of types, names, what is around. No conditions. -/
set_option linter.unusedVariables false
set_option linter.unusedSimpArgs false
namespace Go.Proofs.YtlboogackecjlaaGreat.E
open Go

/-- What is bound: a name, its type. -/
structure Bd where
  name : ByteArray
  a : Ty
def Bd.cells (b : Bd) : List DV := .str b.name :: b.a.cells
def bds (l : List Bd) : List (List DV) := l.map Bd.cells
theorem bds_len (l : List Bd) : (bds l).length = l.length := by simp [bds]
theorem bds_get {l : List Bd} {i : Nat} {row : List DV} (h : (bds l)[i]? = some row) : ∃ b, l[i]? = some b ∧ row = b.cells := by
  rw [bds, List.getElem?_map] at h
  cases hb : l[i]? with
  | none => rw [hb] at h; cases h
  | some b => rw [hb] at h; exact ⟨b, rfl, (Option.some.inj h).symm⟩
/-- The type of a name: the last one's. -/
def findB (l : List Bd) (s : ByteArray) : Option Ty := (l.reverse.find? fun b => decide (b.name = s)).map (·.a)
theorem findB_nil (s : ByteArray) : findB [] s = none := rfl
theorem findB_snoc (l : List Bd) (b : Bd) (s : ByteArray) : findB (l ++ [b]) s = if b.name = s then some b.a else findB l s := by
  unfold findB
  rw [List.reverse_append]
  simp only [List.reverse_cons, List.reverse_nil, List.nil_append, List.singleton_append, List.find?_cons]
  by_cases h : b.name = s <;> simp [h]
structure FindI (l : List Bd) (s : ByteArray) where
  i : Nat
  hi : i ≤ l.length
  h : findB l s = findB (l.take i) s
set_option maxRecDepth 10000 in
theorem pfind_call (l : List Bd) (s : ByteArray) (hl : l.length ≤ 100000) : ACall Tryz.prog 35 [.c (.d (.sl 0 3 (bds l))), .c (.d (.str s))] [] (fun o σ => o = .ret (.tup [((findB l s).getD (.node 0 [])).val, .c (.d (.bool (findB l s).isSome))]) ∧ σ = []) := by
  refine ACall.body tab_ok (ρ := 0) (N := 27) Tryz.func35 rfl rfl rfl rfl rfl ?_
  repeat' first | refine AW.seq ?_ | refine AW.block ?_ | ((first | refine AW.region tab_ok ?_ | refine AW.cond ?_ | refine AW.skip ?_ | refine AW.ret ?_ | refine AW.exit ?_); conv => whnf) | ((first | refine And.intro (@rfl Val _) ?_ | refine And.intro (by decide) ?_ | refine cs (fun _ => ?_) (fun _ => ?_)) <;> conv => whnf)
  refine AW.loop (ι := FindI l s) (fun x => ⟨27, [(6, .c (.d (.int .i64 ((x.i : Int) - 1)))), (0, .c (.d (.sl 0 3 (bds l)))), (1, .c (.d (.str s))), (4, .c (.ptr 0 0))], [.var [.d (.int .i8 0), .d .nils]], []⟩)
    (fun x => x.i) ⟨l.length, Nat.le_refl _, by rw [List.take_length]⟩ 1 (fun _ => rfl) (Nat.le_of_ble_eq_true rfl) ⟨⟨by rw [bds_len, wrap64 (by omega) (by omega)]; rfl, rfl, rfl, rfl, trivial⟩, rfl, rfl, ⟨[], rfl⟩, rfl⟩ (fun x => ?_)
  obtain ⟨i, hi, h⟩ := x
  repeat' first | refine AW.seq ?_ | refine AW.block ?_ | ((first | refine AW.region tab_ok ?_ | refine AW.cond ?_ | refine AW.skip ?_ | refine AW.ret ?_ | refine AW.exit ?_); conv => whnf) | ((first | refine And.intro (@rfl Val _) ?_ | refine And.intro (by decide) ?_ | refine cs (fun _ => ?_) (fun _ => ?_)) <;> conv => whnf)
  · rename_i g1
    have g1 := of_decide_eq_true g1
    simp only at g1
    obtain ⟨j, rfl⟩ : ∃ j, i = j + 1 := ⟨i - 1, by omega⟩
    have hlt : j < l.length := by omega
    have hj : ((j + 1 : Nat) : Int) - 1 = (j : Int) := by omega
    refine ⟨by simp only [bds_len]; omega, fun row hrow => ?_⟩
    simp only [hj, Int.toNat_natCast] at hrow
    obtain ⟨b, hb, rfl⟩ := bds_get hrow
    have htk : l.take (j + 1) = l.take j ++ [b] := by rw [List.take_add_one, hb]; rfl
    rw [htk, findB_snoc] at h
    obtain ⟨bn, bk, bks⟩ := b
    conv => whnf
    have e1 : ∀ row, (bds l)[(((j + 1 : Nat) : Int) - 1).toNat]? = some row → (Bd.mk bn (.node bk bks)).cells = row := fun row h => by
      rw [hj, Int.toNat_natCast, bds, List.getElem?_map, hb] at h
      exact Option.some.inj h
    have f1 : 0 ≤ ((j + 1 : Nat) : Int) - 1 ∧ ((j + 1 : Nat) : Int) - 1 < ((bds l).length : Nat) := by rw [bds_len]; omega
    repeat' first | ((refine And.intro f1 fun row hrow => ?_; obtain rfl := e1 row hrow; conv => whnf)) | refine AW.seq ?_ | refine AW.block ?_ | ((first | refine AW.region tab_ok ?_ | refine AW.cond ?_ | refine AW.skip ?_ | refine AW.ret ?_ | refine AW.exit ?_); conv => whnf) | ((first | refine And.intro (@rfl Val _) ?_ | refine And.intro (by decide) ?_ | refine cs (fun _ => ?_) (fun _ => ?_)) <;> conv => whnf)
    · rename_i g2
      have g2 := of_decide_eq_true g2
      simp only at g2
      rw [if_pos g2] at h
      rw [h]
      exact ⟨rfl, rfl⟩
    · rename_i g2
      have g2 := of_decide_eq_false g2
      simp only at g2
      rw [if_neg g2] at h
      simp only [hj]
      rw [wrap64 (by omega) (by omega)]
      exact ⟨⟨j, by omega, h⟩, ⟨⟨rfl, rfl, rfl, rfl, trivial⟩, rfl, rfl, ⟨[], rfl⟩, rfl⟩, show j < j + 1 by omega⟩
  · rename_i g1
    have g1 := of_decide_eq_false g1
    simp only at g1
    obtain rfl : i = 0 := by omega
    rw [List.take_zero, findB_nil] at h
    rw [h]
    exact ⟨rfl, rfl⟩
end Go.Proofs.YtlboogackecjlaaGreat.E
