/- ProofGreat: Find, Proves, wakes. No conditions. -/
import Derived.Test.YtoglfnjankinnaaPg
set_option linter.unusedVariables false
set_option linter.unusedSimpArgs false
namespace Go.Proofs.Ytoglfnjankinnaa.E
open Go

set_option maxRecDepth 10000 in
theorem sound_num : ACall Try.prog 60 [.c (.d (.rp 0 (leafT 1 ⟨#[]⟩ 3).cells))] [] (fun o σ => o = .ret (.c (.d (.int .i64 0))) ∧ σ = []) := by
  have c1 := tmCheck_call (leafT 1 ⟨#[]⟩ 3)
  rw [show tmcheck (leafT 1 ⟨#[]⟩ 3) = 0 by decide +kernel] at c1
  have c2 := cast_call0 1 ⟨#[]⟩ 3
  refine ACall.body tab_ok (ρ := 0) (N := 13) Try.func60 rfl rfl rfl rfl rfl ?_
  repeat' first
    | refine AW.seq ?_
    | refine AW.block ?_
    | (refine AW.region tab_ok ?_; conv => whnf)
    | (refine AW.cond ?_; conv => whnf)
    | (refine AW.skip ?_; conv => whnf)
    | (refine AW.ret ?_; conv => whnf)
    | (refine AW.exit ?_; conv => whnf)
    | (refine (c1).mono ?_; rintro _ _ ⟨rfl, rfl⟩; conv => whnf)
    | (refine (c2).mono ?_; rintro _ _ ⟨rfl, rfl⟩; conv => whnf)
    | (refine And.intro (@rfl Val _) ?_; conv => whnf)
    | (refine And.intro (by decide) ?_; conv => whnf)
    | (refine cs (fun _ => ?_) (fun _ => ?_) <;> conv => whnf)
  exact ⟨rfl, rfl⟩
set_option maxRecDepth 10000 in
theorem sound_var : ACall Try.prog 60 [.c (.d (.rp 0 (leafT 0 ⟨#[120]⟩ 0).cells))] [] (fun o σ => o = .ret (.c (.d (.int .i64 0))) ∧ σ = []) := by
  have c1 := tmCheck_call (leafT 0 ⟨#[120]⟩ 0)
  rw [show tmcheck (leafT 0 ⟨#[120]⟩ 0) = 0 by decide +kernel] at c1
  have c2 := cast_call0 0 ⟨#[120]⟩ 0
  refine ACall.body tab_ok (ρ := 0) (N := 13) Try.func60 rfl rfl rfl rfl rfl ?_
  repeat' first
    | refine AW.seq ?_
    | refine AW.block ?_
    | (refine AW.region tab_ok ?_; conv => whnf)
    | (refine AW.cond ?_; conv => whnf)
    | (refine AW.skip ?_; conv => whnf)
    | (refine AW.ret ?_; conv => whnf)
    | (refine AW.exit ?_; conv => whnf)
    | (refine (c1).mono ?_; rintro _ _ ⟨rfl, rfl⟩; conv => whnf)
    | (refine (c2).mono ?_; rintro _ _ ⟨rfl, rfl⟩; conv => whnf)
    | (refine And.intro (@rfl Val _) ?_; conv => whnf)
    | (refine And.intro (by decide) ?_; conv => whnf)
    | (refine cs (fun _ => ?_) (fun _ => ?_) <;> conv => whnf)
  exact ⟨rfl, rfl⟩
set_option maxRecDepth 10000 in
theorem sound_yes : ACall Try.prog 60 [.c (.d (.rp 0 (leafT 2 ⟨#[]⟩ 0).cells))] [] (fun o σ => o = .ret (.c (.d (.int .i64 0))) ∧ σ = []) := by
  have c1 := tmCheck_call (leafT 2 ⟨#[]⟩ 0)
  rw [show tmcheck (leafT 2 ⟨#[]⟩ 0) = 0 by decide +kernel] at c1
  have c2 := cast_call0 2 ⟨#[]⟩ 0
  refine ACall.body tab_ok (ρ := 0) (N := 13) Try.func60 rfl rfl rfl rfl rfl ?_
  repeat' first
    | refine AW.seq ?_
    | refine AW.block ?_
    | (refine AW.region tab_ok ?_; conv => whnf)
    | (refine AW.cond ?_; conv => whnf)
    | (refine AW.skip ?_; conv => whnf)
    | (refine AW.ret ?_; conv => whnf)
    | (refine AW.exit ?_; conv => whnf)
    | (refine (c1).mono ?_; rintro _ _ ⟨rfl, rfl⟩; conv => whnf)
    | (refine (c2).mono ?_; rintro _ _ ⟨rfl, rfl⟩; conv => whnf)
    | (refine And.intro (@rfl Val _) ?_; conv => whnf)
    | (refine And.intro (by decide) ?_; conv => whnf)
    | (refine cs (fun _ => ?_) (fun _ => ?_) <;> conv => whnf)
  exact ⟨rfl, rfl⟩
set_option maxRecDepth 10000 in
theorem sound_big (t : Tm) (h : tmcheck t = 32) : ACall Try.prog 60 [.c (.d (.rp 0 t.cells))] [] (fun o σ => o = .ret (.c (.d (.int .i64 32))) ∧ σ = []) := by
  have c1 := tmCheck_call t
  rw [h] at c1
  obtain ⟨k, name, arg, num, tk, tks, uk, uks, label, place, ks⟩ := t
  refine ACall.body tab_ok (ρ := 0) (N := 13) Try.func60 rfl rfl rfl rfl rfl ?_
  repeat' first
    | refine AW.seq ?_
    | refine AW.block ?_
    | (refine AW.region tab_ok ?_; conv => whnf)
    | (refine AW.cond ?_; conv => whnf)
    | (refine AW.skip ?_; conv => whnf)
    | (refine AW.ret ?_; conv => whnf)
    | (refine AW.exit ?_; conv => whnf)
    | (refine (c1).mono ?_; rintro _ _ ⟨rfl, rfl⟩; conv => whnf)
    | (refine And.intro (@rfl Val _) ?_; conv => whnf)
    | (refine And.intro (by decide) ?_; conv => whnf)
    | (refine cs (fun _ => ?_) (fun _ => ?_) <;> conv => whnf)
  exact ⟨rfl, rfl⟩
set_option maxRecDepth 10000 in
theorem Find_num : ACall Try.prog 25 [(leafT 1 ⟨#[]⟩ 3).val] [] (fun o σ => o = .ret (.tup [pfV ⟨#[78, 117, 109]⟩ 1, .c (.d (.int .i64 0))]) ∧ σ = []) := by
  refine ACall.body tab_ok (ρ := 0) (N := 21) Try.func25 rfl rfl rfl rfl rfl ?_
  repeat' first
    | refine AW.seq ?_
    | refine AW.block ?_
    | (refine AW.region tab_ok ?_; conv => whnf)
    | (refine AW.cond ?_; conv => whnf)
    | (refine AW.skip ?_; conv => whnf)
    | (refine AW.ret ?_; conv => whnf)
    | (refine AW.exit ?_; conv => whnf)
    | (refine (sound_num).mono ?_; rintro _ _ ⟨rfl, rfl⟩; conv => whnf)
    | (refine (table_call).mono ?_; rintro _ _ ⟨rfl, rfl⟩; conv => whnf)
    | (refine (derive_num).mono ?_; rintro _ _ ⟨rfl, rfl⟩; conv => whnf)
    | (refine And.intro (@rfl Val _) ?_; conv => whnf)
    | (refine And.intro (by decide) ?_; conv => whnf)
    | (refine cs (fun _ => ?_) (fun _ => ?_) <;> conv => whnf)
  exact ⟨rfl, rfl⟩
set_option maxRecDepth 10000 in
theorem Find_var : ACall Try.prog 25 [(leafT 0 ⟨#[120]⟩ 0).val] [] (fun o σ => o = .ret (.tup [pfV ⟨#[]⟩ 0, .c (.d (.int .i64 100))]) ∧ σ = []) := by
  refine ACall.body tab_ok (ρ := 0) (N := 21) Try.func25 rfl rfl rfl rfl rfl ?_
  repeat' first
    | refine AW.seq ?_
    | refine AW.block ?_
    | (refine AW.region tab_ok ?_; conv => whnf)
    | (refine AW.cond ?_; conv => whnf)
    | (refine AW.skip ?_; conv => whnf)
    | (refine AW.ret ?_; conv => whnf)
    | (refine AW.exit ?_; conv => whnf)
    | (refine (sound_var).mono ?_; rintro _ _ ⟨rfl, rfl⟩; conv => whnf)
    | (refine (table_call).mono ?_; rintro _ _ ⟨rfl, rfl⟩; conv => whnf)
    | (refine (derive_var).mono ?_; rintro _ _ ⟨rfl, rfl⟩; conv => whnf)
    | (refine And.intro (@rfl Val _) ?_; conv => whnf)
    | (refine And.intro (by decide) ?_; conv => whnf)
    | (refine cs (fun _ => ?_) (fun _ => ?_) <;> conv => whnf)
  exact ⟨rfl, rfl⟩
set_option maxRecDepth 10000 in
theorem Find_big (t : Tm) (h : tmcheck t = 32) : ACall Try.prog 25 [t.val] [] (fun o σ => o = .ret (.tup [pfV ⟨#[]⟩ 0, .c (.d (.int .i64 32))]) ∧ σ = []) := by
  have c1 := sound_big t h
  obtain ⟨k, name, arg, num, tk, tks, uk, uks, label, place, ks⟩ := t
  refine ACall.body tab_ok (ρ := 0) (N := 21) Try.func25 rfl rfl rfl rfl rfl ?_
  repeat' first
    | refine AW.seq ?_
    | refine AW.block ?_
    | (refine AW.region tab_ok ?_; conv => whnf)
    | (refine AW.cond ?_; conv => whnf)
    | (refine AW.skip ?_; conv => whnf)
    | (refine AW.ret ?_; conv => whnf)
    | (refine AW.exit ?_; conv => whnf)
    | (refine (c1).mono ?_; rintro _ _ ⟨rfl, rfl⟩; conv => whnf)
    | (refine And.intro (@rfl Val _) ?_; conv => whnf)
    | (refine And.intro (by decide) ?_; conv => whnf)
    | (refine cs (fun _ => ?_) (fun _ => ?_) <;> conv => whnf)
  exact ⟨rfl, rfl⟩
set_option maxRecDepth 10000 in
theorem Proves_num1 : ACall Try.prog 26 [pfV ⟨#[78, 117, 109]⟩ 1, (leafT 1 ⟨#[]⟩ 3).val] [] (fun o σ => o = .ret (.c (.d (.bool true))) ∧ σ = []) := by
  refine ACall.body tab_ok (ρ := 0) (N := 15) Try.func26 rfl rfl rfl rfl rfl ?_
  repeat' first
    | refine AW.seq ?_
    | refine AW.block ?_
    | (refine AW.region tab_ok ?_; conv => whnf)
    | (refine AW.cond ?_; conv => whnf)
    | (refine AW.skip ?_; conv => whnf)
    | (refine AW.ret ?_; conv => whnf)
    | (refine AW.exit ?_; conv => whnf)
    | (refine (sound_num).mono ?_; rintro _ _ ⟨rfl, rfl⟩; conv => whnf)
    | (refine (table_call).mono ?_; rintro _ _ ⟨rfl, rfl⟩; conv => whnf)
    | (refine (derive_num1).mono ?_; rintro _ _ ⟨rfl, rfl⟩; conv => whnf)
    | (refine And.intro (@rfl Val _) ?_; conv => whnf)
    | (refine And.intro (by decide) ?_; conv => whnf)
    | (refine cs (fun _ => ?_) (fun _ => ?_) <;> conv => whnf)
  exact ⟨rfl, rfl⟩
set_option maxRecDepth 10000 in
theorem Proves_num0 : ACall Try.prog 26 [pfV ⟨#[78, 117, 109]⟩ 0, (leafT 1 ⟨#[]⟩ 3).val] [] (fun o σ => o = .ret (.c (.d (.bool false))) ∧ σ = []) := by
  refine ACall.body tab_ok (ρ := 0) (N := 15) Try.func26 rfl rfl rfl rfl rfl ?_
  repeat' first
    | refine AW.seq ?_
    | refine AW.block ?_
    | (refine AW.region tab_ok ?_; conv => whnf)
    | (refine AW.cond ?_; conv => whnf)
    | (refine AW.skip ?_; conv => whnf)
    | (refine AW.ret ?_; conv => whnf)
    | (refine AW.exit ?_; conv => whnf)
    | (refine (sound_num).mono ?_; rintro _ _ ⟨rfl, rfl⟩; conv => whnf)
    | (refine (table_call).mono ?_; rintro _ _ ⟨rfl, rfl⟩; conv => whnf)
    | (refine (derive_num0).mono ?_; rintro _ _ ⟨rfl, rfl⟩; conv => whnf)
    | (refine And.intro (@rfl Val _) ?_; conv => whnf)
    | (refine And.intro (by decide) ?_; conv => whnf)
    | (refine cs (fun _ => ?_) (fun _ => ?_) <;> conv => whnf)
  exact ⟨rfl, rfl⟩
set_option maxRecDepth 10000 in
theorem Proves_yes1 : ACall Try.prog 26 [pfV ⟨#[89, 101, 115]⟩ 1, (leafT 1 ⟨#[]⟩ 3).val] [] (fun o σ => o = .ret (.c (.d (.bool false))) ∧ σ = []) := by
  refine ACall.body tab_ok (ρ := 0) (N := 15) Try.func26 rfl rfl rfl rfl rfl ?_
  repeat' first
    | refine AW.seq ?_
    | refine AW.block ?_
    | (refine AW.region tab_ok ?_; conv => whnf)
    | (refine AW.cond ?_; conv => whnf)
    | (refine AW.skip ?_; conv => whnf)
    | (refine AW.ret ?_; conv => whnf)
    | (refine AW.exit ?_; conv => whnf)
    | (refine (sound_num).mono ?_; rintro _ _ ⟨rfl, rfl⟩; conv => whnf)
    | (refine (table_call).mono ?_; rintro _ _ ⟨rfl, rfl⟩; conv => whnf)
    | (refine (derive_yes1).mono ?_; rintro _ _ ⟨rfl, rfl⟩; conv => whnf)
    | (refine And.intro (@rfl Val _) ?_; conv => whnf)
    | (refine And.intro (by decide) ?_; conv => whnf)
    | (refine cs (fun _ => ?_) (fun _ => ?_) <;> conv => whnf)
  exact ⟨rfl, rfl⟩
set_option maxRecDepth 10000 in
theorem Proves_two (k : Int) (rows rows' : List (List DV)) : ACall Try.prog 26 [.agg [.d (.str ⟨#[84, 119, 111]⟩), .d (.int .i8 k), .d (.sl 0 2 rows), .d (.sl 0 4 rows')], (leafT 2 ⟨#[]⟩ 0).val] [] (fun o σ => o = .ret (.c (.d (.bool false))) ∧ σ = []) := by
  refine ACall.body tab_ok (ρ := 0) (N := 15) Try.func26 rfl rfl rfl rfl rfl ?_
  repeat' first
    | refine AW.seq ?_
    | refine AW.block ?_
    | (refine AW.region tab_ok ?_; conv => whnf)
    | (refine AW.cond ?_; conv => whnf)
    | (refine AW.skip ?_; conv => whnf)
    | (refine AW.ret ?_; conv => whnf)
    | (refine AW.exit ?_; conv => whnf)
    | (refine (sound_yes).mono ?_; rintro _ _ ⟨rfl, rfl⟩; conv => whnf)
    | (refine (table_call).mono ?_; rintro _ _ ⟨rfl, rfl⟩; conv => whnf)
    | (refine (derive_two _ _ _).mono ?_; rintro _ _ ⟨rfl, rfl⟩; conv => whnf)
    | (refine And.intro (@rfl Val _) ?_; conv => whnf)
    | (refine And.intro (by decide) ?_; conv => whnf)
    | (refine cs (fun _ => ?_) (fun _ => ?_) <;> conv => whnf)
  exact ⟨rfl, rfl⟩
set_option maxRecDepth 10000 in
theorem Proves_big (r : ByteArray) (k : Int) (rows rows' : List (List DV)) (t : Tm) (h : tmcheck t = 32) : ACall Try.prog 26 [.agg [.d (.str r), .d (.int .i8 k), .d (.sl 0 2 rows), .d (.sl 0 4 rows')], t.val] [] (fun o σ => o = .ret (.c (.d (.bool false))) ∧ σ = []) := by
  have c1 := sound_big t h
  obtain ⟨k, name, arg, num, tk, tks, uk, uks, label, place, ks⟩ := t
  refine ACall.body tab_ok (ρ := 0) (N := 15) Try.func26 rfl rfl rfl rfl rfl ?_
  repeat' first
    | refine AW.seq ?_
    | refine AW.block ?_
    | (refine AW.region tab_ok ?_; conv => whnf)
    | (refine AW.cond ?_; conv => whnf)
    | (refine AW.skip ?_; conv => whnf)
    | (refine AW.ret ?_; conv => whnf)
    | (refine AW.exit ?_; conv => whnf)
    | (refine (c1).mono ?_; rintro _ _ ⟨rfl, rfl⟩; conv => whnf)
    | (refine And.intro (@rfl Val _) ?_; conv => whnf)
    | (refine And.intro (by decide) ?_; conv => whnf)
    | (refine cs (fun _ => ?_) (fun _ => ?_) <;> conv => whnf)
  exact ⟨rfl, rfl⟩
set_option maxRecDepth 10000 in
theorem wakes10_call : ACall Try.prog 27 [] [] (fun o σ => o = .ret (.c (.d (.bool true))) ∧ σ = []) := by
  have ct := Same_call (.node 1 []) (.node 1 [])
  rw [show sameS (.node 1 []) (.node 1 []) = true by decide +kernel] at ct
  refine ACall.body tab_ok (ρ := 0) (N := 61) Try.func27 rfl rfl rfl rfl rfl ?_
  repeat' first
    | refine AW.seq ?_
    | refine AW.block ?_
    | (refine AW.region tab_ok ?_; conv => whnf)
    | (refine AW.cond ?_; conv => whnf)
    | (refine AW.skip ?_; conv => whnf)
    | (refine AW.ret ?_; conv => whnf)
    | (refine AW.exit ?_; conv => whnf)
    | (refine (Find_num).mono ?_; rintro _ _ ⟨rfl, rfl⟩; conv => whnf)
    | (refine (Find_var).mono ?_; rintro _ _ ⟨rfl, rfl⟩; conv => whnf)
    | (refine (ct).mono ?_; rintro _ _ ⟨rfl, rfl⟩; conv => whnf)
    | (refine (Proves_num1).mono ?_; rintro _ _ ⟨rfl, rfl⟩; conv => whnf)
    | (refine (Proves_num0).mono ?_; rintro _ _ ⟨rfl, rfl⟩; conv => whnf)
    | (refine (Proves_yes1).mono ?_; rintro _ _ ⟨rfl, rfl⟩; conv => whnf)
    | (refine And.intro (@rfl Val _) ?_; conv => whnf)
    | (refine And.intro (by decide) ?_; conv => whnf)
    | (refine cs (fun _ => ?_) (fun _ => ?_) <;> conv => whnf)
  exact ⟨rfl, rfl⟩
end Go.Proofs.Ytoglfnjankinnaa.E
