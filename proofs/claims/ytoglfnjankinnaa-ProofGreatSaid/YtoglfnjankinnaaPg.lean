/- ProofGreat: proof's table and its derivations of small terms. No conditions. -/
import Derived.Test.YtoglfnjankinnaaKn
import Derived.Test.YtoglfnjankinnaaEngX3
set_option linter.unusedVariables false
set_option linter.unusedSimpArgs false
namespace Go.Proofs.Ytoglfnjankinnaa.E
open Go

set_option maxRecDepth 10000 in
theorem simple_call (k : Int) : ACall Try.prog 103 [.c (.d (.int .i8 k))] [] (fun o σ => o = .ret (.c (.fn 154 [] [.ptr 0 0])) ∧ σ = [.var [.d (.int .i8 k)]]) := by
  refine ACall.body tab_ok (ρ := 0) (N := 4) Try.func103 rfl rfl rfl rfl rfl ?_
  repeat' first
    | refine AW.seq ?_
    | refine AW.block ?_
    | (refine AW.region tab_ok ?_; conv => whnf)
    | (refine AW.cond ?_; conv => whnf)
    | (refine AW.skip ?_; conv => whnf)
    | (refine AW.ret ?_; conv => whnf)
    | (refine AW.exit ?_; conv => whnf)
    | (refine And.intro (@rfl Val _) ?_; conv => whnf)
    | (refine And.intro (by decide) ?_; conv => whnf)
    | (refine cs (fun _ => ?_) (fun _ => ?_) <;> conv => whnf)
  exact ⟨rfl, rfl⟩
set_option maxRecDepth 10000 in
theorem part_call (b : Bool) : ACall Try.prog 104 [.c (.d (.bool b))] [] (fun o σ => o = .ret (.c (.fn 155 [] [.ptr 0 0])) ∧ σ = [.var [.d (.bool b)]]) := by
  refine ACall.body tab_ok (ρ := 0) (N := 4) Try.func104 rfl rfl rfl rfl rfl ?_
  repeat' first
    | refine AW.seq ?_
    | refine AW.block ?_
    | (refine AW.region tab_ok ?_; conv => whnf)
    | (refine AW.cond ?_; conv => whnf)
    | (refine AW.skip ?_; conv => whnf)
    | (refine AW.ret ?_; conv => whnf)
    | (refine AW.exit ?_; conv => whnf)
    | (refine And.intro (@rfl Val _) ?_; conv => whnf)
    | (refine And.intro (by decide) ?_; conv => whnf)
    | (refine cs (fun _ => ?_) (fun _ => ?_) <;> conv => whnf)
  exact ⟨rfl, rfl⟩
set_option maxRecDepth 10000 in
theorem into_call (b : Bool) : ACall Try.prog 105 [.c (.d (.bool b))] [] (fun o σ => o = .ret (.c (.fn 156 [] [.ptr 0 0])) ∧ σ = [.var [.d (.bool b)]]) := by
  refine ACall.body tab_ok (ρ := 0) (N := 4) Try.func105 rfl rfl rfl rfl rfl ?_
  repeat' first
    | refine AW.seq ?_
    | refine AW.block ?_
    | (refine AW.region tab_ok ?_; conv => whnf)
    | (refine AW.cond ?_; conv => whnf)
    | (refine AW.skip ?_; conv => whnf)
    | (refine AW.ret ?_; conv => whnf)
    | (refine AW.exit ?_; conv => whnf)
    | (refine And.intro (@rfl Val _) ?_; conv => whnf)
    | (refine And.intro (by decide) ?_; conv => whnf)
    | (refine cs (fun _ => ?_) (fun _ => ?_) <;> conv => whnf)
  exact ⟨rfl, rfl⟩
def ruleF (f : Nat) : DV := .fnd f [] []
def ruleC (f : Nat) (x : DV) : DV := .fnd f [] [.rp 0 [x]]
def k8 (i : Nat) (k : Int) (x : DV) : Nat × DV × DV := (i, .int .i8 k, x)
/-- The rules, as the table tells them. -/
def rulesM : List (Nat × DV × DV) := [k8 0 1 (ruleC 154 (.int .i8 1)), k8 1 2 (ruleC 154 (.int .i8 2)), k8 2 3 (ruleC 154 (.int .i8 2)),
  k8 3 10 (ruleC 155 (.bool false)), k8 4 11 (ruleC 155 (.bool true)), k8 5 12 (ruleC 156 (.bool false)), k8 6 13 (ruleC 156 (.bool true)),
  k8 7 15 (ruleF 106), k8 8 4 (ruleF 107), k8 9 5 (ruleF 109), k8 10 6 (ruleF 111), k8 11 7 (ruleF 113), k8 12 8 (ruleF 114),
  k8 13 9 (ruleF 116), k8 14 14 (ruleF 117), k8 15 16 (ruleF 118)]
theorem mput_to {q y : DV} {es : List (Nat × DV × DV)} {clock : Nat} {X : Nat → List (Nat × DV × DV) → Prop} (es' : List (Nat × DV × DV)) (h1 : mget q es 0 = none) (h2 : es ++ [(clock, q, y)] = es') (h : X (clock + 1) es') : mput q y es clock X := by
  refine ⟨?_⟩
  unfold mputD; rw [h1]; subst h2; exact h
def rT (n : Nat) : List (Nat × DV × DV) := rulesM.take n
set_option maxRecDepth 10000 in
theorem table_call : ACall Try.prog 62 [] [] (fun o σ => o = .ret (.c (.mp 0)) ∧ σ = [.mp (.int .i8) 16 rulesM]) := by
  refine ACall.body tab_ok (ρ := 0) (N := 10) Try.func62 rfl rfl rfl rfl rfl ?_
  repeat' first
    | ((refine mput_to (rT 1) rfl rfl ?_; conv => whnf))
    | ((refine mput_to (rT 2) rfl rfl ?_; conv => whnf))
    | ((refine mput_to (rT 3) rfl rfl ?_; conv => whnf))
    | ((refine mput_to (rT 4) rfl rfl ?_; conv => whnf))
    | ((refine mput_to (rT 5) rfl rfl ?_; conv => whnf))
    | ((refine mput_to (rT 6) rfl rfl ?_; conv => whnf))
    | ((refine mput_to (rT 7) rfl rfl ?_; conv => whnf))
    | ((refine mput_to (rT 8) rfl rfl ?_; conv => whnf))
    | ((refine mput_to (rT 9) rfl rfl ?_; conv => whnf))
    | ((refine mput_to (rT 10) rfl rfl ?_; conv => whnf))
    | ((refine mput_to (rT 11) rfl rfl ?_; conv => whnf))
    | ((refine mput_to (rT 12) rfl rfl ?_; conv => whnf))
    | ((refine mput_to (rT 13) rfl rfl ?_; conv => whnf))
    | ((refine mput_to (rT 14) rfl rfl ?_; conv => whnf))
    | ((refine mput_to (rT 15) rfl rfl ?_; conv => whnf))
    | ((refine mput_to (rT 16) rfl rfl ?_; conv => whnf))
    | refine AW.seq ?_
    | refine AW.block ?_
    | (refine AW.region tab_ok ?_; conv => whnf)
    | (refine AW.cond ?_; conv => whnf)
    | (refine AW.skip ?_; conv => whnf)
    | (refine AW.ret ?_; conv => whnf)
    | (refine AW.exit ?_; conv => whnf)
    | (refine (simple_call _).mono ?_; rintro _ _ ⟨rfl, rfl⟩; conv => whnf)
    | (refine (part_call _).mono ?_; rintro _ _ ⟨rfl, rfl⟩; conv => whnf)
    | (refine (into_call _).mono ?_; rintro _ _ ⟨rfl, rfl⟩; conv => whnf)
    | (refine And.intro (@rfl Val _) ?_; conv => whnf)
    | (refine And.intro (by decide) ?_; conv => whnf)
    | (refine cs (fun _ => ?_) (fun _ => ?_) <;> conv => whnf)
  exact ⟨rfl, rfl⟩
def leafT (k : Int) (s : ByteArray) (n : Int) : Tm := .node k s ⟨#[]⟩ n 0 [] 0 [] 0 0 []
set_option maxRecDepth 10000 in
theorem name_call0 : ACall Try.prog 99 [.c (.d (.int .i8 0))] [] (fun o σ => o = .ret (.c (.d (.str ⟨#[86, 97, 114]⟩))) ∧ σ = []) := by
  refine ACall.body tab_ok (ρ := 0) (N := 8) Try.func99 rfl rfl rfl rfl rfl ?_
  repeat' first
    | refine AW.seq ?_
    | refine AW.block ?_
    | (refine AW.region tab_ok ?_; conv => whnf)
    | (refine AW.cond ?_; conv => whnf)
    | (refine AW.skip ?_; conv => whnf)
    | (refine AW.ret ?_; conv => whnf)
    | (refine AW.exit ?_; conv => whnf)
    | (refine And.intro (@rfl Val _) ?_; conv => whnf)
    | (refine And.intro (by decide) ?_; conv => whnf)
    | (refine cs (fun _ => ?_) (fun _ => ?_) <;> conv => whnf)
  exact ⟨rfl, rfl⟩
set_option maxRecDepth 10000 in
theorem name_call1 : ACall Try.prog 99 [.c (.d (.int .i8 1))] [] (fun o σ => o = .ret (.c (.d (.str ⟨#[78, 117, 109]⟩))) ∧ σ = []) := by
  refine ACall.body tab_ok (ρ := 0) (N := 8) Try.func99 rfl rfl rfl rfl rfl ?_
  repeat' first
    | refine AW.seq ?_
    | refine AW.block ?_
    | (refine AW.region tab_ok ?_; conv => whnf)
    | (refine AW.cond ?_; conv => whnf)
    | (refine AW.skip ?_; conv => whnf)
    | (refine AW.ret ?_; conv => whnf)
    | (refine AW.exit ?_; conv => whnf)
    | (refine And.intro (@rfl Val _) ?_; conv => whnf)
    | (refine And.intro (by decide) ?_; conv => whnf)
    | (refine cs (fun _ => ?_) (fun _ => ?_) <;> conv => whnf)
  exact ⟨rfl, rfl⟩
set_option maxRecDepth 10000 in
theorem name_call2 : ACall Try.prog 99 [.c (.d (.int .i8 2))] [] (fun o σ => o = .ret (.c (.d (.str ⟨#[89, 101, 115]⟩))) ∧ σ = []) := by
  refine ACall.body tab_ok (ρ := 0) (N := 8) Try.func99 rfl rfl rfl rfl rfl ?_
  repeat' first
    | refine AW.seq ?_
    | refine AW.block ?_
    | (refine AW.region tab_ok ?_; conv => whnf)
    | (refine AW.cond ?_; conv => whnf)
    | (refine AW.skip ?_; conv => whnf)
    | (refine AW.ret ?_; conv => whnf)
    | (refine AW.exit ?_; conv => whnf)
    | (refine And.intro (@rfl Val _) ?_; conv => whnf)
    | (refine And.intro (by decide) ?_; conv => whnf)
    | (refine cs (fun _ => ?_) (fun _ => ?_) <;> conv => whnf)
  exact ⟨rfl, rfl⟩
set_option maxRecDepth 10000 in
theorem find_call0 (s : ByteArray) : ACall Try.prog 101 [.c (.d (.sl 0 3 [])), .c (.d (.str s))] [] (fun o σ => o = .ret (.tup [(Ty.node 0 []).val, .c (.d (.bool false))]) ∧ σ = []) := by
  refine ACall.body tab_ok (ρ := 0) (N := 27) Try.func101 rfl rfl rfl rfl rfl ?_
  repeat' first
    | refine AW.seq ?_
    | refine AW.block ?_
    | (refine AW.region tab_ok ?_; conv => whnf)
    | (refine AW.cond ?_; conv => whnf)
    | (refine AW.skip ?_; conv => whnf)
    | (refine AW.ret ?_; conv => whnf)
    | (refine AW.exit ?_; conv => whnf)
    | (refine And.intro (@rfl Val _) ?_; conv => whnf)
    | (refine And.intro (by decide) ?_; conv => whnf)
    | (refine cs (fun _ => ?_) (fun _ => ?_) <;> conv => whnf)
  refine AW.loop (ι := Unit) (fun x => ⟨27, [(6, .c (.d (.int .i64 (-1)))), (0, .c (.d (.sl 0 3 []))), (1, .c (.d (.str s))), (4, .c (.ptr 0 0))], [.var [.d (.int .i8 0), .d .nils]], []⟩)
    (fun x => 0) () 1 (fun _ => rfl) (Nat.le_of_ble_eq_true rfl) ⟨⟨rfl, rfl, rfl, rfl, trivial⟩, rfl, rfl, ⟨[], rfl⟩, rfl⟩ (fun x => ?_)
  repeat' first
    | refine AW.seq ?_
    | refine AW.block ?_
    | (refine AW.region tab_ok ?_; conv => whnf)
    | (refine AW.cond ?_; conv => whnf)
    | (refine AW.skip ?_; conv => whnf)
    | (refine AW.ret ?_; conv => whnf)
    | (refine AW.exit ?_; conv => whnf)
    | (refine And.intro (@rfl Val _) ?_; conv => whnf)
    | (refine And.intro (by decide) ?_; conv => whnf)
    | (refine cs (fun _ => ?_) (fun _ => ?_) <;> conv => whnf)
  exact ⟨rfl, rfl⟩
set_option maxRecDepth 10000 in
theorem whole_call0 (k : Int) : ACall Try.prog 102 [(Ty.node k []).val] [] (fun o σ => o = .ret (Ty.node k []).val ∧ σ = []) := by
  refine ACall.body tab_ok (ρ := 0) (N := 25) Try.func102 rfl rfl rfl rfl rfl ?_
  repeat' first
    | refine AW.seq ?_
    | refine AW.block ?_
    | (refine AW.region tab_ok ?_; conv => whnf)
    | (refine AW.draw (id := 5) tab_ok mixed [0, 1, 2, 3, 4, 5, 6, 7] (by kernel_rfl) ?_; conv => whnf)
    | (refine AW.cond ?_; conv => whnf)
    | (refine AW.skip ?_; conv => whnf)
    | (refine AW.ret ?_; conv => whnf)
    | (refine AW.exit ?_; conv => whnf)
    | (refine And.intro (@rfl Val _) ?_; conv => whnf)
    | (refine And.intro (by decide) ?_; conv => whnf)
    | (refine cs (fun _ => ?_) (fun _ => ?_) <;> conv => whnf)
  refine AW.loop (ι := Unit) (fun x => ⟨25, [(12, .c (.d (.int .i64 0))), (11, .c (.d (.int .i64 0))), (10, .c (.d (.sl 0 2 []))), (3, .c (.ptr 2 0)), (2, .c (.ptr 1 0))], [.var [.d (.int .i8 k), .d (.sl 0 2 [])], .var [.d (.int .i8 0), .d .nils], .var [.d (.int .i8 k), .d .nils]], []⟩)
    (fun x => 0) () 3 (fun _ => rfl) (Nat.le_of_ble_eq_true rfl) ⟨⟨rfl, rfl, rfl, rfl, rfl, trivial⟩, rfl, rfl, ⟨[], rfl⟩, rfl⟩ (fun x => ?_)
  repeat' first
    | refine AW.seq ?_
    | refine AW.block ?_
    | (refine AW.region tab_ok ?_; conv => whnf)
    | (refine AW.draw (id := 5) tab_ok mixed [0, 1, 2, 3, 4, 5, 6, 7] (by kernel_rfl) ?_; conv => whnf)
    | (refine AW.cond ?_; conv => whnf)
    | (refine AW.skip ?_; conv => whnf)
    | (refine AW.ret ?_; conv => whnf)
    | (refine AW.exit ?_; conv => whnf)
    | (refine And.intro (@rfl Val _) ?_; conv => whnf)
    | (refine And.intro (by decide) ?_; conv => whnf)
    | (refine cs (fun _ => ?_) (fun _ => ?_) <;> conv => whnf)
  exact ⟨rfl, rfl⟩
set_option maxRecDepth 10000 in
theorem simple1_call (k : Int) (cells : List DV) : ACall Try.prog 154 [.c (.d (.rp 0 cells)), .c (.d (.sl 0 2 [])), .c (.d (.rp 0 [.int .i8 k]))] [] (fun o σ => o = .ret (.tup [(Ty.node k []).val, .c (.d (.bool true))]) ∧ σ = []) := by
  refine ACall.body tab_ok (ρ := 0) (N := 9) Try.func154 rfl rfl rfl rfl rfl ?_
  repeat' first
    | refine AW.seq ?_
    | refine AW.block ?_
    | (refine AW.region tab_ok ?_; conv => whnf)
    | (refine AW.cond ?_; conv => whnf)
    | (refine AW.skip ?_; conv => whnf)
    | (refine AW.ret ?_; conv => whnf)
    | (refine AW.exit ?_; conv => whnf)
    | (refine And.intro (@rfl Val _) ?_; conv => whnf)
    | (refine And.intro (by decide) ?_; conv => whnf)
    | (refine cs (fun _ => ?_) (fun _ => ?_) <;> conv => whnf)
  exact ⟨rfl, rfl⟩
set_option maxRecDepth 10000 in
theorem cast_call0 (k : Int) (s : ByteArray) (n : Int) : ACall Try.prog 98 [.c (.d (.rp 0 (leafT k s n).cells))] [] (fun o σ => o = .ret (.c (.d (.bool (k == 17)))) ∧ σ = []) := by
  refine ACall.body tab_ok (ρ := 0) (N := 25) Try.func98 rfl rfl rfl rfl rfl ?_
  repeat' first
    | refine AW.seq ?_
    | refine AW.block ?_
    | (refine AW.region tab_ok ?_; conv => whnf)
    | (refine AW.cond ?_; conv => whnf)
    | (refine AW.skip ?_; conv => whnf)
    | (refine AW.ret ?_; conv => whnf)
    | (refine AW.exit ?_; conv => whnf)
    | (refine And.intro (@rfl Val _) ?_; conv => whnf)
    | (refine And.intro (by decide) ?_; conv => whnf)
    | (refine cs (fun _ => ?_) (fun _ => ?_) <;> conv => whnf)
  refine AW.loop (ι := Unit) (fun x => ⟨25, [(9, .c (.d (.int .i64 0))), (8, .c (.d (.int .i64 0))), (0, .c (.d (.rp 0 (leafT k s n).cells)))], [], []⟩)
    (fun x => 0) () 0 (fun _ => rfl) (Nat.le_of_ble_eq_true rfl) ⟨⟨rfl, rfl, rfl, trivial⟩, rfl, rfl, ⟨[], rfl⟩, rfl⟩ (fun x => ?_)
  repeat' first
    | refine AW.seq ?_
    | refine AW.block ?_
    | (refine AW.region tab_ok ?_; conv => whnf)
    | (refine AW.cond ?_; conv => whnf)
    | (refine AW.skip ?_; conv => whnf)
    | (refine AW.ret ?_; conv => whnf)
    | (refine AW.exit ?_; conv => whnf)
    | (refine And.intro (@rfl Val _) ?_; conv => whnf)
    | (refine And.intro (by decide) ?_; conv => whnf)
    | (refine cs (fun _ => ?_) (fun _ => ?_) <;> conv => whnf)
  exact ⟨rfl, rfl⟩
def pfV (r : ByteArray) (k : Int) : Val := .agg [.d (.str r), .d (.int .i8 k), .d (.sl 0 2 []), .d (.sl 0 4 [])]
theorem whole_call00 : ACall Try.prog 102 [.agg [.d (.int .i8 1), .d (.sl 0 2 [])]] [] (fun o σ => o = .ret (Ty.node 1 []).val ∧ σ = []) := whole_call0 1
set_option maxRecDepth 10000 in
theorem derive_num : ACall Try.prog 61 [.c (.mp 0), .c (.d (.rp 0 (leafT 1 ⟨#[]⟩ 3).cells)), .c (.d (.sl 0 3 [])), .c (.d (.nilp))] [.mp (.int .i8) 16 rulesM] (fun o σ => o = .ret (.tup [pfV ⟨#[78, 117, 109]⟩ 1, .c (.d (.bool true))]) ∧ σ = [.mp (.int .i8) 16 rulesM]) := by
  have ct := Same_call (.node 1 []) (.node 1 [])
  have cu := Same_call (.node 0 []) (.node 1 [])
  rw [show sameS (.node 1 []) (.node 1 []) = true by decide +kernel] at ct
  rw [show sameS (.node 0 []) (.node 1 []) = false by decide +kernel] at cu
  refine ACall.body tab_ok (ρ := 0) (N := 149) Try.func61 rfl rfl rfl rfl rfl ?_
  repeat' first
    | refine AW.seq ?_
    | refine AW.block ?_
    | (refine AW.region tab_ok ?_; conv => whnf)
    | (refine AW.draw (id := 2) tab_ok mixed [0, 1, 2, 3, 4, 5, 6, 7, 8, 9, 10, 11, 12, 13, 14, 15, 16, 17, 18, 19, 20, 21, 22, 23] (by kernel_rfl) ?_; conv => whnf)
    | (refine AW.draw (id := 14) tab_ok mixed [0, 1, 2, 3, 4, 5, 6, 7, 8, 9, 10, 12, 11, 13, 14, 15, 16, 17, 18, 19] (by kernel_rfl) ?_; conv => whnf)
    | (refine AW.draw (id := 25) tab_ok mixed [0, 1, 2, 3, 4, 5, 6, 7, 8, 9, 10, 11, 12, 13, 14, 15, 16] (by kernel_rfl) ?_; conv => whnf)
    | (refine AW.cond ?_; conv => whnf)
    | (refine AW.skip ?_; conv => whnf)
    | (refine AW.ret ?_; conv => whnf)
    | (refine AW.exit ?_; conv => whnf)
    | (refine (name_call1).mono ?_; rintro _ _ ⟨rfl, rfl⟩; conv => whnf)
    | (refine (simple1_call _ _).mono ?_; rintro _ _ ⟨rfl, rfl⟩; conv => whnf)
    | (refine (whole_call0 _).mono ?_; rintro _ _ ⟨rfl, rfl⟩; conv => whnf)
    | (refine (find_call0 _).mono ?_; rintro _ _ ⟨rfl, rfl⟩; conv => whnf)
    | (refine (ct).mono ?_; rintro _ _ ⟨rfl, rfl⟩; conv => whnf)
    | (refine (cu).mono ?_; rintro _ _ ⟨rfl, rfl⟩; conv => whnf)
    | (refine And.intro (@rfl Val _) ?_; conv => whnf)
    | (refine And.intro (by decide) ?_; conv => whnf)
    | (refine cs (fun _ => ?_) (fun _ => ?_) <;> conv => whnf)
  refine AW.loop (ι := Unit) (fun x => ⟨149, [(54, .c (.d (.int .i64 0))), (53, .c (.d (.int .i64 0))), (0, .c (.mp 0)), (1, .c (.d (.rp 0 (leafT 1 ⟨#[]⟩ 3).cells))), (2, .c (.d (.sl 0 3 []))), (3, .c (.d (.nilp))), (8, .c (.ptr 1 0)), (10, .c (.ptr 2 0)), (11, .c (.d .nils))],
      [.mp (.int .i8) 16 rulesM, .var [.d (.str ⟨#[]⟩), .d (.int .i8 0), .d .nils, .d .nils], .var [.d (.str ⟨#[78, 117, 109]⟩), .d (.int .i8 0), .d .nils, .d .nils]], []⟩)
    (fun x => 0) () 3 (fun _ => rfl) (Nat.le_of_ble_eq_true rfl) ⟨⟨rfl, rfl, rfl, rfl, rfl, rfl, rfl, rfl, rfl, trivial⟩, rfl, rfl, ⟨[], rfl⟩, rfl⟩ (fun x => ?_)
  repeat' first
    | ((refine mlook_case ?_; conv => whnf))
    | refine AW.seq ?_
    | refine AW.block ?_
    | (refine AW.region tab_ok ?_; conv => whnf)
    | (refine AW.draw (id := 2) tab_ok mixed [0, 1, 2, 3, 4, 5, 6, 7, 8, 9, 10, 11, 12, 13, 14, 15, 16, 17, 18, 19, 20, 21, 22, 23] (by kernel_rfl) ?_; conv => whnf)
    | (refine AW.draw (id := 14) tab_ok mixed [0, 1, 2, 3, 4, 5, 6, 7, 8, 9, 10, 12, 11, 13, 14, 15, 16, 17, 18, 19] (by kernel_rfl) ?_; conv => whnf)
    | (refine AW.draw (id := 25) tab_ok mixed [0, 1, 2, 3, 4, 5, 6, 7, 8, 9, 10, 11, 12, 13, 14, 15, 16] (by kernel_rfl) ?_; conv => whnf)
    | (refine AW.cond ?_; conv => whnf)
    | (refine AW.skip ?_; conv => whnf)
    | (refine AW.ret ?_; conv => whnf)
    | (refine AW.exit ?_; conv => whnf)
    | (refine (name_call1).mono ?_; rintro _ _ ⟨rfl, rfl⟩; conv => whnf)
    | (refine (simple1_call _ _).mono ?_; rintro _ _ ⟨rfl, rfl⟩; conv => whnf)
    | (refine (whole_call0 _).mono ?_; rintro _ _ ⟨rfl, rfl⟩; conv => whnf)
    | (refine (find_call0 _).mono ?_; rintro _ _ ⟨rfl, rfl⟩; conv => whnf)
    | (refine (ct).mono ?_; rintro _ _ ⟨rfl, rfl⟩; conv => whnf)
    | (refine (cu).mono ?_; rintro _ _ ⟨rfl, rfl⟩; conv => whnf)
    | (refine And.intro (@rfl Val _) ?_; conv => whnf)
    | (refine And.intro (by decide) ?_; conv => whnf)
    | (refine cs (fun _ => ?_) (fun _ => ?_) <;> conv => whnf)
  exact ⟨rfl, rfl⟩
set_option maxRecDepth 10000 in
theorem derive_var : ACall Try.prog 61 [.c (.mp 0), .c (.d (.rp 0 (leafT 0 ⟨#[120]⟩ 0).cells)), .c (.d (.sl 0 3 [])), .c (.d (.nilp))] [.mp (.int .i8) 16 rulesM] (fun o σ => o = .ret (.tup [pfV ⟨#[86, 97, 114]⟩ 0, .c (.d (.bool false))]) ∧ σ = [.mp (.int .i8) 16 rulesM]) := by
  have ct := Same_call (.node 1 []) (.node 1 [])
  have cu := Same_call (.node 0 []) (.node 1 [])
  rw [show sameS (.node 1 []) (.node 1 []) = true by decide +kernel] at ct
  rw [show sameS (.node 0 []) (.node 1 []) = false by decide +kernel] at cu
  refine ACall.body tab_ok (ρ := 0) (N := 149) Try.func61 rfl rfl rfl rfl rfl ?_
  repeat' first
    | refine AW.seq ?_
    | refine AW.block ?_
    | (refine AW.region tab_ok ?_; conv => whnf)
    | (refine AW.draw (id := 2) tab_ok mixed [0, 1, 2, 3, 4, 5, 6, 7, 8, 9, 10, 11, 12, 13, 14, 15, 16, 17, 18, 19, 20, 21, 22, 23] (by kernel_rfl) ?_; conv => whnf)
    | (refine AW.draw (id := 14) tab_ok mixed [0, 1, 2, 3, 4, 5, 6, 7, 8, 9, 10, 12, 11, 13, 14, 15, 16, 17, 18, 19] (by kernel_rfl) ?_; conv => whnf)
    | (refine AW.draw (id := 25) tab_ok mixed [0, 1, 2, 3, 4, 5, 6, 7, 8, 9, 10, 11, 12, 13, 14, 15, 16] (by kernel_rfl) ?_; conv => whnf)
    | (refine AW.cond ?_; conv => whnf)
    | (refine AW.skip ?_; conv => whnf)
    | (refine AW.ret ?_; conv => whnf)
    | (refine AW.exit ?_; conv => whnf)
    | (refine (name_call0).mono ?_; rintro _ _ ⟨rfl, rfl⟩; conv => whnf)
    | (refine (simple1_call _ _).mono ?_; rintro _ _ ⟨rfl, rfl⟩; conv => whnf)
    | (refine (whole_call0 _).mono ?_; rintro _ _ ⟨rfl, rfl⟩; conv => whnf)
    | (refine (find_call0 _).mono ?_; rintro _ _ ⟨rfl, rfl⟩; conv => whnf)
    | (refine (ct).mono ?_; rintro _ _ ⟨rfl, rfl⟩; conv => whnf)
    | (refine (cu).mono ?_; rintro _ _ ⟨rfl, rfl⟩; conv => whnf)
    | (refine And.intro (@rfl Val _) ?_; conv => whnf)
    | (refine And.intro (by decide) ?_; conv => whnf)
    | (refine cs (fun _ => ?_) (fun _ => ?_) <;> conv => whnf)
  refine AW.loop (ι := Unit) (fun x => ⟨149, [(54, .c (.d (.int .i64 0))), (53, .c (.d (.int .i64 0))), (0, .c (.mp 0)), (1, .c (.d (.rp 0 (leafT 0 ⟨#[120]⟩ 0).cells))), (2, .c (.d (.sl 0 3 []))), (3, .c (.d (.nilp))), (8, .c (.ptr 1 0)), (10, .c (.ptr 2 0)), (11, .c (.d .nils))],
      [.mp (.int .i8) 16 rulesM, .var [.d (.str ⟨#[]⟩), .d (.int .i8 0), .d .nils, .d .nils], .var [.d (.str ⟨#[86, 97, 114]⟩), .d (.int .i8 0), .d .nils, .d .nils]], []⟩)
    (fun x => 0) () 3 (fun _ => rfl) (Nat.le_of_ble_eq_true rfl) ⟨⟨rfl, rfl, rfl, rfl, rfl, rfl, rfl, rfl, rfl, trivial⟩, rfl, rfl, ⟨[], rfl⟩, rfl⟩ (fun x => ?_)
  repeat' first
    | ((refine mlook_case ?_; conv => whnf))
    | refine AW.seq ?_
    | refine AW.block ?_
    | (refine AW.region tab_ok ?_; conv => whnf)
    | (refine AW.draw (id := 2) tab_ok mixed [0, 1, 2, 3, 4, 5, 6, 7, 8, 9, 10, 11, 12, 13, 14, 15, 16, 17, 18, 19, 20, 21, 22, 23] (by kernel_rfl) ?_; conv => whnf)
    | (refine AW.draw (id := 14) tab_ok mixed [0, 1, 2, 3, 4, 5, 6, 7, 8, 9, 10, 12, 11, 13, 14, 15, 16, 17, 18, 19] (by kernel_rfl) ?_; conv => whnf)
    | (refine AW.draw (id := 25) tab_ok mixed [0, 1, 2, 3, 4, 5, 6, 7, 8, 9, 10, 11, 12, 13, 14, 15, 16] (by kernel_rfl) ?_; conv => whnf)
    | (refine AW.cond ?_; conv => whnf)
    | (refine AW.skip ?_; conv => whnf)
    | (refine AW.ret ?_; conv => whnf)
    | (refine AW.exit ?_; conv => whnf)
    | (refine (name_call0).mono ?_; rintro _ _ ⟨rfl, rfl⟩; conv => whnf)
    | (refine (simple1_call _ _).mono ?_; rintro _ _ ⟨rfl, rfl⟩; conv => whnf)
    | (refine (whole_call0 _).mono ?_; rintro _ _ ⟨rfl, rfl⟩; conv => whnf)
    | (refine (find_call0 _).mono ?_; rintro _ _ ⟨rfl, rfl⟩; conv => whnf)
    | (refine (ct).mono ?_; rintro _ _ ⟨rfl, rfl⟩; conv => whnf)
    | (refine (cu).mono ?_; rintro _ _ ⟨rfl, rfl⟩; conv => whnf)
    | (refine And.intro (@rfl Val _) ?_; conv => whnf)
    | (refine And.intro (by decide) ?_; conv => whnf)
    | (refine cs (fun _ => ?_) (fun _ => ?_) <;> conv => whnf)
  exact ⟨rfl, rfl⟩
set_option maxRecDepth 10000 in
theorem derive_num1 : ACall Try.prog 61 [.c (.mp 0), .c (.d (.rp 0 (leafT 1 ⟨#[]⟩ 3).cells)), .c (.d (.sl 0 3 [])), .c (.d (.rp 0 [.str ⟨#[78, 117, 109]⟩, .int .i8 1, .sl 0 2 [], .sl 0 4 []]))] [.mp (.int .i8) 16 rulesM] (fun o σ => o = .ret (.tup [pfV ⟨#[78, 117, 109]⟩ 1, .c (.d (.bool true))]) ∧ σ = [.mp (.int .i8) 16 rulesM]) := by
  have ct := Same_call (.node 1 []) (.node 1 [])
  have cu := Same_call (.node 0 []) (.node 1 [])
  rw [show sameS (.node 1 []) (.node 1 []) = true by decide +kernel] at ct
  rw [show sameS (.node 0 []) (.node 1 []) = false by decide +kernel] at cu
  refine ACall.body tab_ok (ρ := 0) (N := 149) Try.func61 rfl rfl rfl rfl rfl ?_
  repeat' first
    | refine AW.seq ?_
    | refine AW.block ?_
    | (refine AW.region tab_ok ?_; conv => whnf)
    | (refine AW.draw (id := 2) tab_ok mixed [0, 1, 2, 3, 4, 5, 6, 7, 8, 9, 10, 11, 12, 13, 14, 15, 16, 17, 18, 19, 20, 21, 22, 23] (by kernel_rfl) ?_; conv => whnf)
    | (refine AW.draw (id := 14) tab_ok mixed [0, 1, 2, 3, 4, 5, 6, 7, 8, 9, 10, 12, 11, 13, 14, 15, 16, 17, 18, 19] (by kernel_rfl) ?_; conv => whnf)
    | (refine AW.draw (id := 25) tab_ok mixed [0, 1, 2, 3, 4, 5, 6, 7, 8, 9, 10, 11, 12, 13, 14, 15, 16] (by kernel_rfl) ?_; conv => whnf)
    | (refine AW.cond ?_; conv => whnf)
    | (refine AW.skip ?_; conv => whnf)
    | (refine AW.ret ?_; conv => whnf)
    | (refine AW.exit ?_; conv => whnf)
    | (refine (name_call1).mono ?_; rintro _ _ ⟨rfl, rfl⟩; conv => whnf)
    | (refine (simple1_call _ _).mono ?_; rintro _ _ ⟨rfl, rfl⟩; conv => whnf)
    | (refine (whole_call0 _).mono ?_; rintro _ _ ⟨rfl, rfl⟩; conv => whnf)
    | (refine (find_call0 _).mono ?_; rintro _ _ ⟨rfl, rfl⟩; conv => whnf)
    | (refine (ct).mono ?_; rintro _ _ ⟨rfl, rfl⟩; conv => whnf)
    | (refine (cu).mono ?_; rintro _ _ ⟨rfl, rfl⟩; conv => whnf)
    | (refine And.intro (@rfl Val _) ?_; conv => whnf)
    | (refine And.intro (by decide) ?_; conv => whnf)
    | (refine cs (fun _ => ?_) (fun _ => ?_) <;> conv => whnf)
  refine AW.loop (ι := Unit) (fun x => ⟨149, [(54, .c (.d (.int .i64 0))), (53, .c (.d (.int .i64 0))), (0, .c (.mp 0)), (1, .c (.d (.rp 0 (leafT 1 ⟨#[]⟩ 3).cells))), (2, .c (.d (.sl 0 3 []))), (3, .c (.d (.rp 0 [.str ⟨#[78, 117, 109]⟩, .int .i8 1, .sl 0 2 [], .sl 0 4 []]))), (8, .c (.ptr 1 0)), (10, .c (.ptr 2 0)), (11, .c (.d .nils))],
      [.mp (.int .i8) 16 rulesM, .var [.d (.str ⟨#[]⟩), .d (.int .i8 0), .d .nils, .d .nils], .var [.d (.str ⟨#[78, 117, 109]⟩), .d (.int .i8 0), .d .nils, .d .nils]], []⟩)
    (fun x => 0) () 3 (fun _ => rfl) (Nat.le_of_ble_eq_true rfl) ⟨⟨rfl, rfl, rfl, rfl, rfl, rfl, rfl, rfl, rfl, trivial⟩, rfl, rfl, ⟨[], rfl⟩, rfl⟩ (fun x => ?_)
  repeat' first
    | ((refine mlook_case ?_; conv => whnf))
    | refine AW.seq ?_
    | refine AW.block ?_
    | (refine AW.region tab_ok ?_; conv => whnf)
    | (refine AW.draw (id := 2) tab_ok mixed [0, 1, 2, 3, 4, 5, 6, 7, 8, 9, 10, 11, 12, 13, 14, 15, 16, 17, 18, 19, 20, 21, 22, 23] (by kernel_rfl) ?_; conv => whnf)
    | (refine AW.draw (id := 14) tab_ok mixed [0, 1, 2, 3, 4, 5, 6, 7, 8, 9, 10, 12, 11, 13, 14, 15, 16, 17, 18, 19] (by kernel_rfl) ?_; conv => whnf)
    | (refine AW.draw (id := 25) tab_ok mixed [0, 1, 2, 3, 4, 5, 6, 7, 8, 9, 10, 11, 12, 13, 14, 15, 16] (by kernel_rfl) ?_; conv => whnf)
    | (refine AW.cond ?_; conv => whnf)
    | (refine AW.skip ?_; conv => whnf)
    | (refine AW.ret ?_; conv => whnf)
    | (refine AW.exit ?_; conv => whnf)
    | (refine (name_call1).mono ?_; rintro _ _ ⟨rfl, rfl⟩; conv => whnf)
    | (refine (simple1_call _ _).mono ?_; rintro _ _ ⟨rfl, rfl⟩; conv => whnf)
    | (refine (whole_call0 _).mono ?_; rintro _ _ ⟨rfl, rfl⟩; conv => whnf)
    | (refine (find_call0 _).mono ?_; rintro _ _ ⟨rfl, rfl⟩; conv => whnf)
    | (refine (ct).mono ?_; rintro _ _ ⟨rfl, rfl⟩; conv => whnf)
    | (refine (cu).mono ?_; rintro _ _ ⟨rfl, rfl⟩; conv => whnf)
    | (refine And.intro (@rfl Val _) ?_; conv => whnf)
    | (refine And.intro (by decide) ?_; conv => whnf)
    | (refine cs (fun _ => ?_) (fun _ => ?_) <;> conv => whnf)
  exact ⟨rfl, rfl⟩
set_option maxRecDepth 10000 in
theorem derive_num0 : ACall Try.prog 61 [.c (.mp 0), .c (.d (.rp 0 (leafT 1 ⟨#[]⟩ 3).cells)), .c (.d (.sl 0 3 [])), .c (.d (.rp 0 [.str ⟨#[78, 117, 109]⟩, .int .i8 0, .sl 0 2 [], .sl 0 4 []]))] [.mp (.int .i8) 16 rulesM] (fun o σ => o = .ret (.tup [pfV ⟨#[78, 117, 109]⟩ 1, .c (.d (.bool false))]) ∧ σ = [.mp (.int .i8) 16 rulesM]) := by
  have ct := Same_call (.node 1 []) (.node 1 [])
  have cu := Same_call (.node 0 []) (.node 1 [])
  rw [show sameS (.node 1 []) (.node 1 []) = true by decide +kernel] at ct
  rw [show sameS (.node 0 []) (.node 1 []) = false by decide +kernel] at cu
  refine ACall.body tab_ok (ρ := 0) (N := 149) Try.func61 rfl rfl rfl rfl rfl ?_
  repeat' first
    | refine AW.seq ?_
    | refine AW.block ?_
    | (refine AW.region tab_ok ?_; conv => whnf)
    | (refine AW.draw (id := 2) tab_ok mixed [0, 1, 2, 3, 4, 5, 6, 7, 8, 9, 10, 11, 12, 13, 14, 15, 16, 17, 18, 19, 20, 21, 22, 23] (by kernel_rfl) ?_; conv => whnf)
    | (refine AW.draw (id := 14) tab_ok mixed [0, 1, 2, 3, 4, 5, 6, 7, 8, 9, 10, 12, 11, 13, 14, 15, 16, 17, 18, 19] (by kernel_rfl) ?_; conv => whnf)
    | (refine AW.draw (id := 25) tab_ok mixed [0, 1, 2, 3, 4, 5, 6, 7, 8, 9, 10, 11, 12, 13, 14, 15, 16] (by kernel_rfl) ?_; conv => whnf)
    | (refine AW.cond ?_; conv => whnf)
    | (refine AW.skip ?_; conv => whnf)
    | (refine AW.ret ?_; conv => whnf)
    | (refine AW.exit ?_; conv => whnf)
    | (refine (name_call1).mono ?_; rintro _ _ ⟨rfl, rfl⟩; conv => whnf)
    | (refine (simple1_call _ _).mono ?_; rintro _ _ ⟨rfl, rfl⟩; conv => whnf)
    | (refine (whole_call0 _).mono ?_; rintro _ _ ⟨rfl, rfl⟩; conv => whnf)
    | (refine (find_call0 _).mono ?_; rintro _ _ ⟨rfl, rfl⟩; conv => whnf)
    | (refine (ct).mono ?_; rintro _ _ ⟨rfl, rfl⟩; conv => whnf)
    | (refine (cu).mono ?_; rintro _ _ ⟨rfl, rfl⟩; conv => whnf)
    | (refine And.intro (@rfl Val _) ?_; conv => whnf)
    | (refine And.intro (by decide) ?_; conv => whnf)
    | (refine cs (fun _ => ?_) (fun _ => ?_) <;> conv => whnf)
  refine AW.loop (ι := Unit) (fun x => ⟨149, [(54, .c (.d (.int .i64 0))), (53, .c (.d (.int .i64 0))), (0, .c (.mp 0)), (1, .c (.d (.rp 0 (leafT 1 ⟨#[]⟩ 3).cells))), (2, .c (.d (.sl 0 3 []))), (3, .c (.d (.rp 0 [.str ⟨#[78, 117, 109]⟩, .int .i8 0, .sl 0 2 [], .sl 0 4 []]))), (8, .c (.ptr 1 0)), (10, .c (.ptr 2 0)), (11, .c (.d .nils))],
      [.mp (.int .i8) 16 rulesM, .var [.d (.str ⟨#[]⟩), .d (.int .i8 0), .d .nils, .d .nils], .var [.d (.str ⟨#[78, 117, 109]⟩), .d (.int .i8 0), .d .nils, .d .nils]], []⟩)
    (fun x => 0) () 3 (fun _ => rfl) (Nat.le_of_ble_eq_true rfl) ⟨⟨rfl, rfl, rfl, rfl, rfl, rfl, rfl, rfl, rfl, trivial⟩, rfl, rfl, ⟨[], rfl⟩, rfl⟩ (fun x => ?_)
  repeat' first
    | ((refine mlook_case ?_; conv => whnf))
    | refine AW.seq ?_
    | refine AW.block ?_
    | (refine AW.region tab_ok ?_; conv => whnf)
    | (refine AW.draw (id := 2) tab_ok mixed [0, 1, 2, 3, 4, 5, 6, 7, 8, 9, 10, 11, 12, 13, 14, 15, 16, 17, 18, 19, 20, 21, 22, 23] (by kernel_rfl) ?_; conv => whnf)
    | (refine AW.draw (id := 14) tab_ok mixed [0, 1, 2, 3, 4, 5, 6, 7, 8, 9, 10, 12, 11, 13, 14, 15, 16, 17, 18, 19] (by kernel_rfl) ?_; conv => whnf)
    | (refine AW.draw (id := 25) tab_ok mixed [0, 1, 2, 3, 4, 5, 6, 7, 8, 9, 10, 11, 12, 13, 14, 15, 16] (by kernel_rfl) ?_; conv => whnf)
    | (refine AW.cond ?_; conv => whnf)
    | (refine AW.skip ?_; conv => whnf)
    | (refine AW.ret ?_; conv => whnf)
    | (refine AW.exit ?_; conv => whnf)
    | (refine (name_call1).mono ?_; rintro _ _ ⟨rfl, rfl⟩; conv => whnf)
    | (refine (simple1_call _ _).mono ?_; rintro _ _ ⟨rfl, rfl⟩; conv => whnf)
    | (refine (whole_call0 _).mono ?_; rintro _ _ ⟨rfl, rfl⟩; conv => whnf)
    | (refine (find_call0 _).mono ?_; rintro _ _ ⟨rfl, rfl⟩; conv => whnf)
    | (refine (ct).mono ?_; rintro _ _ ⟨rfl, rfl⟩; conv => whnf)
    | (refine (cu).mono ?_; rintro _ _ ⟨rfl, rfl⟩; conv => whnf)
    | (refine And.intro (@rfl Val _) ?_; conv => whnf)
    | (refine And.intro (by decide) ?_; conv => whnf)
    | (refine cs (fun _ => ?_) (fun _ => ?_) <;> conv => whnf)
  exact ⟨rfl, rfl⟩
set_option maxRecDepth 10000 in
theorem derive_yes1 : ACall Try.prog 61 [.c (.mp 0), .c (.d (.rp 0 (leafT 1 ⟨#[]⟩ 3).cells)), .c (.d (.sl 0 3 [])), .c (.d (.rp 0 [.str ⟨#[89, 101, 115]⟩, .int .i8 1, .sl 0 2 [], .sl 0 4 []]))] [.mp (.int .i8) 16 rulesM] (fun o σ => o = .ret (.tup [pfV ⟨#[78, 117, 109]⟩ 0, .c (.d (.bool false))]) ∧ σ = [.mp (.int .i8) 16 rulesM]) := by
  have ct := Same_call (.node 1 []) (.node 1 [])
  have cu := Same_call (.node 0 []) (.node 1 [])
  rw [show sameS (.node 1 []) (.node 1 []) = true by decide +kernel] at ct
  rw [show sameS (.node 0 []) (.node 1 []) = false by decide +kernel] at cu
  refine ACall.body tab_ok (ρ := 0) (N := 149) Try.func61 rfl rfl rfl rfl rfl ?_
  repeat' first
    | refine AW.seq ?_
    | refine AW.block ?_
    | (refine AW.region tab_ok ?_; conv => whnf)
    | (refine AW.draw (id := 2) tab_ok mixed [0, 1, 2, 3, 4, 5, 6, 7, 8, 9, 10, 11, 12, 13, 14, 15, 16, 17, 18, 19, 20, 21, 22, 23] (by kernel_rfl) ?_; conv => whnf)
    | (refine AW.draw (id := 14) tab_ok mixed [0, 1, 2, 3, 4, 5, 6, 7, 8, 9, 10, 12, 11, 13, 14, 15, 16, 17, 18, 19] (by kernel_rfl) ?_; conv => whnf)
    | (refine AW.draw (id := 25) tab_ok mixed [0, 1, 2, 3, 4, 5, 6, 7, 8, 9, 10, 11, 12, 13, 14, 15, 16] (by kernel_rfl) ?_; conv => whnf)
    | (refine AW.cond ?_; conv => whnf)
    | (refine AW.skip ?_; conv => whnf)
    | (refine AW.ret ?_; conv => whnf)
    | (refine AW.exit ?_; conv => whnf)
    | (refine (name_call1).mono ?_; rintro _ _ ⟨rfl, rfl⟩; conv => whnf)
    | (refine (simple1_call _ _).mono ?_; rintro _ _ ⟨rfl, rfl⟩; conv => whnf)
    | (refine (whole_call0 _).mono ?_; rintro _ _ ⟨rfl, rfl⟩; conv => whnf)
    | (refine (find_call0 _).mono ?_; rintro _ _ ⟨rfl, rfl⟩; conv => whnf)
    | (refine (ct).mono ?_; rintro _ _ ⟨rfl, rfl⟩; conv => whnf)
    | (refine (cu).mono ?_; rintro _ _ ⟨rfl, rfl⟩; conv => whnf)
    | (refine And.intro (@rfl Val _) ?_; conv => whnf)
    | (refine And.intro (by decide) ?_; conv => whnf)
    | (refine cs (fun _ => ?_) (fun _ => ?_) <;> conv => whnf)
  exact ⟨rfl, rfl⟩
set_option maxRecDepth 10000 in
theorem derive_two (k : Int) (rows rows' : List (List DV)) : ACall Try.prog 61 [.c (.mp 0), .c (.d (.rp 0 (leafT 2 ⟨#[]⟩ 0).cells)), .c (.d (.sl 0 3 [])), .c (.d (.rp 0 [.str ⟨#[84, 119, 111]⟩, .int .i8 k, .sl 0 2 rows, .sl 0 4 rows']))] [.mp (.int .i8) 16 rulesM] (fun o σ => o = .ret (.tup [pfV ⟨#[89, 101, 115]⟩ 0, .c (.d (.bool false))]) ∧ σ = [.mp (.int .i8) 16 rulesM]) := by
  have ct := Same_call (.node 1 []) (.node 1 [])
  have cu := Same_call (.node 0 []) (.node 1 [])
  rw [show sameS (.node 1 []) (.node 1 []) = true by decide +kernel] at ct
  rw [show sameS (.node 0 []) (.node 1 []) = false by decide +kernel] at cu
  refine ACall.body tab_ok (ρ := 0) (N := 149) Try.func61 rfl rfl rfl rfl rfl ?_
  repeat' first
    | refine AW.seq ?_
    | refine AW.block ?_
    | (refine AW.region tab_ok ?_; conv => whnf)
    | (refine AW.draw (id := 2) tab_ok mixed [0, 1, 2, 3, 4, 5, 6, 7, 8, 9, 10, 11, 12, 13, 14, 15, 16, 17, 18, 19, 20, 21, 22, 23] (by kernel_rfl) ?_; conv => whnf)
    | (refine AW.draw (id := 14) tab_ok mixed [0, 1, 2, 3, 4, 5, 6, 7, 8, 9, 10, 12, 11, 13, 14, 15, 16, 17, 18, 19] (by kernel_rfl) ?_; conv => whnf)
    | (refine AW.draw (id := 25) tab_ok mixed [0, 1, 2, 3, 4, 5, 6, 7, 8, 9, 10, 11, 12, 13, 14, 15, 16] (by kernel_rfl) ?_; conv => whnf)
    | (refine AW.cond ?_; conv => whnf)
    | (refine AW.skip ?_; conv => whnf)
    | (refine AW.ret ?_; conv => whnf)
    | (refine AW.exit ?_; conv => whnf)
    | (refine (name_call2).mono ?_; rintro _ _ ⟨rfl, rfl⟩; conv => whnf)
    | (refine (simple1_call _ _).mono ?_; rintro _ _ ⟨rfl, rfl⟩; conv => whnf)
    | (refine (whole_call0 _).mono ?_; rintro _ _ ⟨rfl, rfl⟩; conv => whnf)
    | (refine (find_call0 _).mono ?_; rintro _ _ ⟨rfl, rfl⟩; conv => whnf)
    | (refine (ct).mono ?_; rintro _ _ ⟨rfl, rfl⟩; conv => whnf)
    | (refine (cu).mono ?_; rintro _ _ ⟨rfl, rfl⟩; conv => whnf)
    | (refine And.intro (@rfl Val _) ?_; conv => whnf)
    | (refine And.intro (by decide) ?_; conv => whnf)
    | (refine cs (fun _ => ?_) (fun _ => ?_) <;> conv => whnf)
  exact ⟨rfl, rfl⟩
end Go.Proofs.Ytoglfnjankinnaa.E
