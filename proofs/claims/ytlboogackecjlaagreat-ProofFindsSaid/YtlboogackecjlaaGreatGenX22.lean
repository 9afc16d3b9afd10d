/- Texts, merged: Pr6, Pr7. No conditions. -/
import Derived.Test.YtlboogackecjlaaGreatPr5a
import Derived.Test.YtlboogackecjlaaGreatPr5b
import Derived.Test.YtlboogackecjlaaGreatPr5c
import Derived.Test.YtlboogackecjlaaGreatPr5
import Derived.Test.YtlboogackecjlaaGreatGenX9
import Derived.Test.YtlboogackecjlaaGreatGenX10
/- The document's rules, for every term. No conditions. -/
set_option linter.unusedVariables false
set_option linter.unusedSimpArgs false
namespace Go.Proofs.YtlboogackecjlaaGreat.E
open Go

theorem len0 {α : Type} {l : List α} (h : (0 : Int) = l.length) : l = [] := List.length_eq_zero_iff.1 (by omega)
theorem len1 {α : Type} {l : List α} (h : (1 : Int) = l.length) : ∃ a, l = [a] := by
  match l, h with
  | [a], _ => exact ⟨a, rfl⟩
  | [], h => simp at h
  | _ :: _ :: _, h => simp only [List.length_cons] at h; omega
theorem len2 {α : Type} {l : List α} (h : (2 : Int) = l.length) : ∃ a b, l = [a, b] := by
  match l, h with
  | [a, b], _ => exact ⟨a, b, rfl⟩
  | [], h => simp at h
  | [_], h => simp at h
  | _ :: _ :: _ :: _, h => simp only [List.length_cons] at h; omega
theorem len3 {α : Type} {l : List α} (h : (3 : Int) = l.length) : ∃ a b c, l = [a, b, c] := by
  match l, h with
  | [a, b, c], _ => exact ⟨a, b, c, rfl⟩
  | [], h => simp at h
  | [_], h => simp at h
  | [_, _], h => simp at h
  | _ :: _ :: _ :: _ :: _, h => simp only [List.length_cons] at h; omega
set_option maxRecDepth 10000 in
set_option maxHeartbeats 4000000 in
theorem Rules_call (t : Tm) : tmright t = true → tmhas 17 t = false → ∀ l : List Bd, l.length + 2 * tmN t ≤ 90000 → ACall Tryz.prog 23 [t.val, .c (.d (.sl 0 3 (bds l))), .c (.d (.int .i64 0))] [] (fun o σ => o = rV (rul t l) ∧ σ = []) := by
  induction t using Tm.ind with
  | _ k name arg num tk tks uk uks label place ks ih =>
  intro hr h17 l hl
  have h17' : ¬ k = 17 ∧ tmhass 17 ks = false := by simpa [tmhas] using h17
  have hv : 0 ≤ k ∧ k ≤ 17 := by simpa [validK] using tmright_valid hr
  have hn := tmright_len hr
  have hpos : 0 < tmN (.node k name arg num tk tks uk uks label place ks) := tmN_pos _
  have hc : ∀ t ∈ ks, ∀ l' : List Bd, l'.length ≤ l.length + 2 → ACall Tryz.prog 23 [t.val, .c (.d (.sl 0 3 (bds l'))), .c (.d (.int .i64 0))] [] (fun o σ => o = rV (rul t l') ∧ σ = []) := fun t ht l' hl' => by
    have h1 := tmN_mem ks t ht
    have h2 : tmN t + 1 ≤ tmN (.node k name arg num tk tks uk uks label place ks) := by simp only [tmN]; omega
    refine ih t ht (tmright_kid hr ht) ?_ l' (by omega)
    cases e : tmhas 17 t with
    | false => rfl
    | true => rw [tmhass_mem 17 ks t ht e] at h17'; exact absurd h17'.2 (by simp)
  have hl9 : l.length ≤ 90000 := by omega
  clear ih h17 hl hpos hr
  rcases (by omega : k = 0 ∨ k = 1 ∨ k = 2 ∨ k = 3 ∨ k = 4 ∨ k = 5 ∨ k = 6 ∨ k = 7 ∨ k = 8 ∨ k = 9 ∨ k = 10 ∨ k = 11 ∨ k = 12 ∨ k = 13 ∨ k = 14 ∨ k = 15 ∨ k = 16) with rfl | rfl | rfl | rfl | rfl | rfl | rfl | rfl | rfl | rfl | rfl | rfl | rfl | rfl | rfl | rfl | rfl
  · obtain rfl := len0 (show (0 : Int) = ks.length from hn)
    refine (rul0 name arg num tk tks uk uks label place l hl9).mono ?_
    rintro _ _ ⟨rfl, rfl⟩; refine ⟨?_, rfl⟩; simp only [rul, rulB, if_true]; cases findB l name <;> rfl
  · obtain rfl := len0 (show (0 : Int) = ks.length from hn)
    refine (rul1 name arg num tk tks uk uks label place l hl9).mono ?_
    rintro _ _ ⟨rfl, rfl⟩; exact ⟨by simp [rul, ruls, rulB], rfl⟩
  · obtain rfl := len0 (show (0 : Int) = ks.length from hn)
    refine (rul2 name arg num tk tks uk uks label place l hl9).mono ?_
    rintro _ _ ⟨rfl, rfl⟩; exact ⟨by simp [rul, ruls, rulB], rfl⟩
  · obtain rfl := len0 (show (0 : Int) = ks.length from hn)
    refine (rul3 name arg num tk tks uk uks label place l hl9).mono ?_
    rintro _ _ ⟨rfl, rfl⟩; exact ⟨by simp [rul, ruls, rulB], rfl⟩
  · obtain ⟨t0, rfl⟩ := len1 (show (1 : Int) = ks.length from hn)
    have c0 := hc t0 (by simp) (l ++ [⟨name, .node tk tks⟩]) (by simp)
    refine (rul4 name arg num tk tks uk uks label place l hl9 t0 (rul t0 (l ++ [⟨name, .node tk tks⟩])) c0).mono ?_
    rintro _ _ ⟨rfl, rfl⟩; exact ⟨by simp [rul, ruls, rulB], rfl⟩
  · obtain ⟨t0, rfl⟩ := len1 (show (1 : Int) = ks.length from hn)
    have c0 := hc t0 (by simp) (l ++ [⟨name, .node 3 [.node tk tks, .node uk uks]⟩] ++ [⟨arg, .node tk tks⟩]) (by simp)
    refine (rul5 name arg num tk tks uk uks label place l hl9 t0 (rul t0 (l ++ [⟨name, .node 3 [.node tk tks, .node uk uks]⟩] ++ [⟨arg, .node tk tks⟩])) c0).mono ?_
    rintro _ _ ⟨rfl, rfl⟩; exact ⟨by simp [rul, ruls, rulB], rfl⟩
  · obtain ⟨t0, t1, rfl⟩ := len2 (show (2 : Int) = ks.length from hn)
    have c0 := hc t0 (by simp) (l) (by simp)
    have c1 := hc t1 (by simp) (l) (by simp)
    refine (rul6 name arg num tk tks uk uks label place l hl9 t0 t1 _ (oth6 name arg num tk tks uk uks label place l t0 t1 (rul t0 (l)) (rul t1 (l)) c0 c1)).mono ?_
    rintro _ _ ⟨rfl, rfl⟩; exact ⟨by simp [rul, ruls, rulB], rfl⟩
  · obtain ⟨t0, t1, rfl⟩ := len2 (show (2 : Int) = ks.length from hn)
    have c0 := hc t0 (by simp) (l) (by simp)
    have c1 := hc t1 (by simp) (l ++ [⟨name, .node tk tks⟩]) (by simp)
    refine (rul7 name arg num tk tks uk uks label place l hl9 t0 t1 (rul t0 (l)) (rul t1 (l ++ [⟨name, .node tk tks⟩])) c0 c1).mono ?_
    rintro _ _ ⟨rfl, rfl⟩; exact ⟨by simp [rul, ruls, rulB], rfl⟩
  · obtain ⟨t0, t1, t2, rfl⟩ := len3 (show (3 : Int) = ks.length from hn)
    have c0 := hc t0 (by simp) (l) (by simp)
    have c1 := hc t1 (by simp) (l) (by simp)
    have c2 := hc t2 (by simp) (l) (by simp)
    refine (rul8 name arg num tk tks uk uks label place l hl9 t0 t1 t2 _ (oth8 name arg num tk tks uk uks label place l t0 t1 t2 (rul t0 (l)) (rul t1 (l)) (rul t2 (l)) c0 c1 c2)).mono ?_
    rintro _ _ ⟨rfl, rfl⟩; exact ⟨by simp [rul, ruls, rulB], rfl⟩
  · obtain ⟨t0, t1, rfl⟩ := len2 (show (2 : Int) = ks.length from hn)
    have c0 := hc t0 (by simp) (l) (by simp)
    have c1 := hc t1 (by simp) (l) (by simp)
    refine (rul9 name arg num tk tks uk uks label place l hl9 t0 t1 _ (oth9 name arg num tk tks uk uks label place l t0 t1 (rul t0 (l)) (rul t1 (l)) c0 c1)).mono ?_
    rintro _ _ ⟨rfl, rfl⟩; exact ⟨by simp [rul, ruls, rulB], rfl⟩
  · obtain ⟨t0, rfl⟩ := len1 (show (1 : Int) = ks.length from hn)
    have c0 := hc t0 (by simp) (l) (by simp)
    refine (rul10 name arg num tk tks uk uks label place l hl9 t0 _ (oth10 name arg num tk tks uk uks label place l t0 (rul t0 (l)) c0)).mono ?_
    rintro _ _ ⟨rfl, rfl⟩; exact ⟨by simp [rul, ruls, rulB], rfl⟩
  · obtain ⟨t0, rfl⟩ := len1 (show (1 : Int) = ks.length from hn)
    have c0 := hc t0 (by simp) (l) (by simp)
    refine (rul11 name arg num tk tks uk uks label place l hl9 t0 _ (oth11 name arg num tk tks uk uks label place l t0 (rul t0 (l)) c0)).mono ?_
    rintro _ _ ⟨rfl, rfl⟩; exact ⟨by simp [rul, ruls, rulB], rfl⟩
  · obtain ⟨t0, rfl⟩ := len1 (show (1 : Int) = ks.length from hn)
    have c0 := hc t0 (by simp) (l) (by simp)
    refine (rul12 name arg num tk tks uk uks label place l hl9 t0 _ (oth12 name arg num tk tks uk uks label place l t0 (rul t0 (l)) c0)).mono ?_
    rintro _ _ ⟨rfl, rfl⟩; exact ⟨by simp [rul, ruls, rulB], rfl⟩
  · obtain ⟨t0, rfl⟩ := len1 (show (1 : Int) = ks.length from hn)
    have c0 := hc t0 (by simp) (l) (by simp)
    refine (rul13 name arg num tk tks uk uks label place l hl9 t0 _ (oth13 name arg num tk tks uk uks label place l t0 (rul t0 (l)) c0)).mono ?_
    rintro _ _ ⟨rfl, rfl⟩; exact ⟨by simp [rul, ruls, rulB], rfl⟩
  · obtain ⟨t0, t1, t2, rfl⟩ := len3 (show (3 : Int) = ks.length from hn)
    have c0 := hc t0 (by simp) (l) (by simp)
    have c1 := hc t1 (by simp) (l ++ [⟨name, asL 5 (rul t0 l).1⟩]) (by simp)
    have c2 := hc t2 (by simp) (l ++ [⟨arg, asR 5 (rul t0 l).1⟩]) (by simp)
    refine (rul14 name arg num tk tks uk uks label place l hl9 t0 t1 t2 _ (branches_call name arg num tk tks uk uks label place l hl9 t0 t1 t2 (rul t0 (l)) (rul t1 (l ++ [⟨name, asL 5 (rul t0 l).1⟩])) (rul t2 (l ++ [⟨arg, asR 5 (rul t0 l).1⟩])) c0 c1 c2)).mono ?_
    rintro _ _ ⟨rfl, rfl⟩; exact ⟨by simp [rul, ruls, rulB], rfl⟩
  · obtain ⟨t0, t1, rfl⟩ := len2 (show (2 : Int) = ks.length from hn)
    have c0 := hc t0 (by simp) (l) (by simp)
    have c1 := hc t1 (by simp) (l) (by simp)
    refine (rul15 name arg num tk tks uk uks label place l hl9 t0 t1 _ (oth15 name arg num tk tks uk uks label place l t0 t1 (rul t0 (l)) (rul t1 (l)) c0 c1)).mono ?_
    rintro _ _ ⟨rfl, rfl⟩; exact ⟨by simp [rul, ruls, rulB], rfl⟩
  · obtain ⟨t0, rfl⟩ := len1 (show (1 : Int) = ks.length from hn)
    have c0 := hc t0 (by simp) (l) (by simp)
    refine (rul16 name arg num tk tks uk uks label place l hl9 t0 _ (oth16 name arg num tk tks uk uks label place l t0 (rul t0 (l)) c0)).mono ?_
    rintro _ _ ⟨rfl, rfl⟩; exact ⟨by simp [rul, ruls, rulB], rfl⟩
end Go.Proofs.YtlboogackecjlaaGreat.E

/- The document's derivations: names, what is around, derived. No conditions. -/
set_option linter.unusedVariables false
set_option linter.unusedSimpArgs false
namespace Go.Proofs.YtlboogackecjlaaGreat.E
open Go

set_option maxRecDepth 10000 in
set_option maxHeartbeats 4000000 in
theorem RName_call (k : Int) (hk : 0 ≤ k ∧ k ≤ 16) : ACall Tryz.prog 65 [.c (.d (.int .i8 k))] [] (fun o σ => o = .ret (.c (.d (.str (ruleN k)))) ∧ σ = []) := by
  rcases (by omega : k = 0 ∨ k = 1 ∨ k = 2 ∨ k = 3 ∨ k = 4 ∨ k = 5 ∨ k = 6 ∨ k = 7 ∨ k = 8 ∨ k = 9 ∨ k = 10 ∨ k = 11 ∨ k = 12 ∨ k = 13 ∨ k = 14 ∨ k = 15 ∨ k = 16) with rfl | rfl | rfl | rfl | rfl | rfl | rfl | rfl | rfl | rfl | rfl | rfl | rfl | rfl | rfl | rfl | rfl
  · skip
    refine ACall.body tab_ok (ρ := 0) (N := 18) Tryz.func65 rfl rfl rfl rfl rfl ?_
    repeat' first | ((intro row hrow; obtain rfl := Option.some.inj hrow; conv => whnf)) | refine AW.seq ?_ | refine AW.block ?_ | ((first | refine AW.region tab_ok ?_ | refine AW.cond ?_ | refine AW.skip ?_ | refine AW.ret ?_ | refine AW.exit ?_); conv => whnf) | ((first | refine And.intro (@rfl Val _) ?_ | refine And.intro (by decide) ?_ | refine cs (fun _ => ?_) (fun _ => ?_)) <;> conv => whnf)
    all_goals first | exact ⟨rfl, rfl⟩
  · skip
    refine ACall.body tab_ok (ρ := 0) (N := 18) Tryz.func65 rfl rfl rfl rfl rfl ?_
    repeat' first | ((intro row hrow; obtain rfl := Option.some.inj hrow; conv => whnf)) | refine AW.seq ?_ | refine AW.block ?_ | ((first | refine AW.region tab_ok ?_ | refine AW.cond ?_ | refine AW.skip ?_ | refine AW.ret ?_ | refine AW.exit ?_); conv => whnf) | ((first | refine And.intro (@rfl Val _) ?_ | refine And.intro (by decide) ?_ | refine cs (fun _ => ?_) (fun _ => ?_)) <;> conv => whnf)
    all_goals first | exact ⟨rfl, rfl⟩
  · skip
    refine ACall.body tab_ok (ρ := 0) (N := 18) Tryz.func65 rfl rfl rfl rfl rfl ?_
    repeat' first | ((intro row hrow; obtain rfl := Option.some.inj hrow; conv => whnf)) | refine AW.seq ?_ | refine AW.block ?_ | ((first | refine AW.region tab_ok ?_ | refine AW.cond ?_ | refine AW.skip ?_ | refine AW.ret ?_ | refine AW.exit ?_); conv => whnf) | ((first | refine And.intro (@rfl Val _) ?_ | refine And.intro (by decide) ?_ | refine cs (fun _ => ?_) (fun _ => ?_)) <;> conv => whnf)
    all_goals first | exact ⟨rfl, rfl⟩
  · skip
    refine ACall.body tab_ok (ρ := 0) (N := 18) Tryz.func65 rfl rfl rfl rfl rfl ?_
    repeat' first | ((intro row hrow; obtain rfl := Option.some.inj hrow; conv => whnf)) | refine AW.seq ?_ | refine AW.block ?_ | ((first | refine AW.region tab_ok ?_ | refine AW.cond ?_ | refine AW.skip ?_ | refine AW.ret ?_ | refine AW.exit ?_); conv => whnf) | ((first | refine And.intro (@rfl Val _) ?_ | refine And.intro (by decide) ?_ | refine cs (fun _ => ?_) (fun _ => ?_)) <;> conv => whnf)
    all_goals first | exact ⟨rfl, rfl⟩
  · skip
    refine ACall.body tab_ok (ρ := 0) (N := 18) Tryz.func65 rfl rfl rfl rfl rfl ?_
    repeat' first | ((intro row hrow; obtain rfl := Option.some.inj hrow; conv => whnf)) | refine AW.seq ?_ | refine AW.block ?_ | ((first | refine AW.region tab_ok ?_ | refine AW.cond ?_ | refine AW.skip ?_ | refine AW.ret ?_ | refine AW.exit ?_); conv => whnf) | ((first | refine And.intro (@rfl Val _) ?_ | refine And.intro (by decide) ?_ | refine cs (fun _ => ?_) (fun _ => ?_)) <;> conv => whnf)
    all_goals first | exact ⟨rfl, rfl⟩
  · skip
    refine ACall.body tab_ok (ρ := 0) (N := 18) Tryz.func65 rfl rfl rfl rfl rfl ?_
    repeat' first | ((intro row hrow; obtain rfl := Option.some.inj hrow; conv => whnf)) | refine AW.seq ?_ | refine AW.block ?_ | ((first | refine AW.region tab_ok ?_ | refine AW.cond ?_ | refine AW.skip ?_ | refine AW.ret ?_ | refine AW.exit ?_); conv => whnf) | ((first | refine And.intro (@rfl Val _) ?_ | refine And.intro (by decide) ?_ | refine cs (fun _ => ?_) (fun _ => ?_)) <;> conv => whnf)
    all_goals first | exact ⟨rfl, rfl⟩
  · skip
    refine ACall.body tab_ok (ρ := 0) (N := 18) Tryz.func65 rfl rfl rfl rfl rfl ?_
    repeat' first | ((intro row hrow; obtain rfl := Option.some.inj hrow; conv => whnf)) | refine AW.seq ?_ | refine AW.block ?_ | ((first | refine AW.region tab_ok ?_ | refine AW.cond ?_ | refine AW.skip ?_ | refine AW.ret ?_ | refine AW.exit ?_); conv => whnf) | ((first | refine And.intro (@rfl Val _) ?_ | refine And.intro (by decide) ?_ | refine cs (fun _ => ?_) (fun _ => ?_)) <;> conv => whnf)
    all_goals first | exact ⟨rfl, rfl⟩
  · skip
    refine ACall.body tab_ok (ρ := 0) (N := 18) Tryz.func65 rfl rfl rfl rfl rfl ?_
    repeat' first | ((intro row hrow; obtain rfl := Option.some.inj hrow; conv => whnf)) | refine AW.seq ?_ | refine AW.block ?_ | ((first | refine AW.region tab_ok ?_ | refine AW.cond ?_ | refine AW.skip ?_ | refine AW.ret ?_ | refine AW.exit ?_); conv => whnf) | ((first | refine And.intro (@rfl Val _) ?_ | refine And.intro (by decide) ?_ | refine cs (fun _ => ?_) (fun _ => ?_)) <;> conv => whnf)
    all_goals first | exact ⟨rfl, rfl⟩
  · skip
    refine ACall.body tab_ok (ρ := 0) (N := 18) Tryz.func65 rfl rfl rfl rfl rfl ?_
    repeat' first | ((intro row hrow; obtain rfl := Option.some.inj hrow; conv => whnf)) | refine AW.seq ?_ | refine AW.block ?_ | ((first | refine AW.region tab_ok ?_ | refine AW.cond ?_ | refine AW.skip ?_ | refine AW.ret ?_ | refine AW.exit ?_); conv => whnf) | ((first | refine And.intro (@rfl Val _) ?_ | refine And.intro (by decide) ?_ | refine cs (fun _ => ?_) (fun _ => ?_)) <;> conv => whnf)
    all_goals first | exact ⟨rfl, rfl⟩
  · skip
    refine ACall.body tab_ok (ρ := 0) (N := 18) Tryz.func65 rfl rfl rfl rfl rfl ?_
    repeat' first | ((intro row hrow; obtain rfl := Option.some.inj hrow; conv => whnf)) | refine AW.seq ?_ | refine AW.block ?_ | ((first | refine AW.region tab_ok ?_ | refine AW.cond ?_ | refine AW.skip ?_ | refine AW.ret ?_ | refine AW.exit ?_); conv => whnf) | ((first | refine And.intro (@rfl Val _) ?_ | refine And.intro (by decide) ?_ | refine cs (fun _ => ?_) (fun _ => ?_)) <;> conv => whnf)
    all_goals first | exact ⟨rfl, rfl⟩
  · skip
    refine ACall.body tab_ok (ρ := 0) (N := 18) Tryz.func65 rfl rfl rfl rfl rfl ?_
    repeat' first | ((intro row hrow; obtain rfl := Option.some.inj hrow; conv => whnf)) | refine AW.seq ?_ | refine AW.block ?_ | ((first | refine AW.region tab_ok ?_ | refine AW.cond ?_ | refine AW.skip ?_ | refine AW.ret ?_ | refine AW.exit ?_); conv => whnf) | ((first | refine And.intro (@rfl Val _) ?_ | refine And.intro (by decide) ?_ | refine cs (fun _ => ?_) (fun _ => ?_)) <;> conv => whnf)
    all_goals first | exact ⟨rfl, rfl⟩
  · skip
    refine ACall.body tab_ok (ρ := 0) (N := 18) Tryz.func65 rfl rfl rfl rfl rfl ?_
    repeat' first | ((intro row hrow; obtain rfl := Option.some.inj hrow; conv => whnf)) | refine AW.seq ?_ | refine AW.block ?_ | ((first | refine AW.region tab_ok ?_ | refine AW.cond ?_ | refine AW.skip ?_ | refine AW.ret ?_ | refine AW.exit ?_); conv => whnf) | ((first | refine And.intro (@rfl Val _) ?_ | refine And.intro (by decide) ?_ | refine cs (fun _ => ?_) (fun _ => ?_)) <;> conv => whnf)
    all_goals first | exact ⟨rfl, rfl⟩
  · skip
    refine ACall.body tab_ok (ρ := 0) (N := 18) Tryz.func65 rfl rfl rfl rfl rfl ?_
    repeat' first | ((intro row hrow; obtain rfl := Option.some.inj hrow; conv => whnf)) | refine AW.seq ?_ | refine AW.block ?_ | ((first | refine AW.region tab_ok ?_ | refine AW.cond ?_ | refine AW.skip ?_ | refine AW.ret ?_ | refine AW.exit ?_); conv => whnf) | ((first | refine And.intro (@rfl Val _) ?_ | refine And.intro (by decide) ?_ | refine cs (fun _ => ?_) (fun _ => ?_)) <;> conv => whnf)
    all_goals first | exact ⟨rfl, rfl⟩
  · skip
    refine ACall.body tab_ok (ρ := 0) (N := 18) Tryz.func65 rfl rfl rfl rfl rfl ?_
    repeat' first | ((intro row hrow; obtain rfl := Option.some.inj hrow; conv => whnf)) | refine AW.seq ?_ | refine AW.block ?_ | ((first | refine AW.region tab_ok ?_ | refine AW.cond ?_ | refine AW.skip ?_ | refine AW.ret ?_ | refine AW.exit ?_); conv => whnf) | ((first | refine And.intro (@rfl Val _) ?_ | refine And.intro (by decide) ?_ | refine cs (fun _ => ?_) (fun _ => ?_)) <;> conv => whnf)
    all_goals first | exact ⟨rfl, rfl⟩
  · skip
    refine ACall.body tab_ok (ρ := 0) (N := 18) Tryz.func65 rfl rfl rfl rfl rfl ?_
    repeat' first | ((intro row hrow; obtain rfl := Option.some.inj hrow; conv => whnf)) | refine AW.seq ?_ | refine AW.block ?_ | ((first | refine AW.region tab_ok ?_ | refine AW.cond ?_ | refine AW.skip ?_ | refine AW.ret ?_ | refine AW.exit ?_); conv => whnf) | ((first | refine And.intro (@rfl Val _) ?_ | refine And.intro (by decide) ?_ | refine cs (fun _ => ?_) (fun _ => ?_)) <;> conv => whnf)
    all_goals first | exact ⟨rfl, rfl⟩
  · skip
    refine ACall.body tab_ok (ρ := 0) (N := 18) Tryz.func65 rfl rfl rfl rfl rfl ?_
    repeat' first | ((intro row hrow; obtain rfl := Option.some.inj hrow; conv => whnf)) | refine AW.seq ?_ | refine AW.block ?_ | ((first | refine AW.region tab_ok ?_ | refine AW.cond ?_ | refine AW.skip ?_ | refine AW.ret ?_ | refine AW.exit ?_); conv => whnf) | ((first | refine And.intro (@rfl Val _) ?_ | refine And.intro (by decide) ?_ | refine cs (fun _ => ?_) (fun _ => ?_)) <;> conv => whnf)
    all_goals first | exact ⟨rfl, rfl⟩
  · skip
    refine ACall.body tab_ok (ρ := 0) (N := 18) Tryz.func65 rfl rfl rfl rfl rfl ?_
    repeat' first | ((intro row hrow; obtain rfl := Option.some.inj hrow; conv => whnf)) | refine AW.seq ?_ | refine AW.block ?_ | ((first | refine AW.region tab_ok ?_ | refine AW.cond ?_ | refine AW.skip ?_ | refine AW.ret ?_ | refine AW.exit ?_); conv => whnf) | ((first | refine And.intro (@rfl Val _) ?_ | refine And.intro (by decide) ?_ | refine cs (fun _ => ?_) (fun _ => ?_)) <;> conv => whnf)
    all_goals first | exact ⟨rfl, rfl⟩
set_option maxRecDepth 10000 in
set_option maxHeartbeats 4000000 in
theorem inn4_i (name arg : ByteArray) (num tk : Int) (tks : List Ty) (uk : Int) (uks : List Ty) (label place : Int) (l : List Bd) (hl : l.length ≤ 90000) (t0 : Tm) (i : Nat)
    : ACall Tryz.prog 66 [(Tm.node 4 name arg num tk tks uk uks label place [t0]).val, .c (.d (.sl 0 3 (bds l))), .c (.d (.int .i64 i))] [] (fun o σ => o = .ret (.c (.d (.sl 0 3 (bds (l ++ [⟨name, .node tk tks⟩]))))) ∧ σ = []) := by
  have ar0 := RAround_call l name (.node tk tks) (by omega)
  generalize bds (l ++ [⟨name, .node tk tks⟩]) = l1 at *
  generalize bds l = l0 at *
  refine ACall.body tab_ok (ρ := 0) (N := 82) Tryz.func66 rfl rfl rfl rfl rfl ?_
  repeat' first | ((refine AW.rounds 5 ?_; conv => whnf)) | ((refine And.intro (⟨by decide, by first | decide | (simp [Tm.rows, Pf.rows]; done) | (simp [Tm.rows, Pf.rows]; decide)⟩ : _ ∧ _) ?_; conv => whnf)) | ((intro row hrow; obtain rfl := Option.some.inj hrow; conv => whnf)) | refine AW.seq ?_ | refine AW.block ?_ | (refine (id : AW _ _ _ (.region 6 _ true) _ _ → _) ?_; refine AW.draw (id := 6) tab_ok mixed [0, 1, 2, 3, 5, 6, 7, 8, 4, 9, 10] (by kernel_rfl) ?_; conv => whnf) | ((first | refine AW.region tab_ok ?_ | refine AW.cond ?_ | refine AW.skip ?_ | refine AW.ret ?_ | refine AW.exit ?_); conv => whnf) | (refine (ar0).mono ?_; rintro _ _ ⟨rfl, rfl⟩; conv => whnf) | ((first | refine And.intro (@rfl Val _) ?_ | refine And.intro (by decide) ?_ | refine cs (fun _ => ?_) (fun _ => ?_)) <;> conv => whnf)
  all_goals first | exact ⟨rfl, rfl⟩
set_option maxRecDepth 10000 in
set_option maxHeartbeats 4000000 in
theorem inn5_i (name arg : ByteArray) (num tk : Int) (tks : List Ty) (uk : Int) (uks : List Ty) (label place : Int) (l : List Bd) (hl : l.length ≤ 90000) (t0 : Tm) (i : Nat)
    : ACall Tryz.prog 66 [(Tm.node 5 name arg num tk tks uk uks label place [t0]).val, .c (.d (.sl 0 3 (bds l))), .c (.d (.int .i64 i))] [] (fun o σ => o = .ret (.c (.d (.sl 0 3 (bds (l ++ [⟨name, .node 3 [.node tk tks, .node uk uks]⟩] ++ [⟨arg, .node tk tks⟩]))))) ∧ σ = []) := by
  have ar0 := RAround_call l name (.node 3 [.node tk tks, .node uk uks]) (by omega)
  have ar1 := RAround_call (l ++ [⟨name, .node 3 [.node tk tks, .node uk uks]⟩]) arg (.node tk tks) (by simp; omega)
  have mt0 := ROf_call 3 (.node tk tks) (.node uk uks)
  generalize bds (l ++ [⟨name, .node 3 [.node tk tks, .node uk uks]⟩] ++ [⟨arg, .node tk tks⟩]) = l2 at *
  generalize bds (l ++ [⟨name, .node 3 [.node tk tks, .node uk uks]⟩]) = l1 at *
  generalize bds l = l0 at *
  refine ACall.body tab_ok (ρ := 0) (N := 82) Tryz.func66 rfl rfl rfl rfl rfl ?_
  repeat' first | ((refine AW.rounds 5 ?_; conv => whnf)) | ((refine And.intro (⟨by decide, by first | decide | (simp [Tm.rows, Pf.rows]; done) | (simp [Tm.rows, Pf.rows]; decide)⟩ : _ ∧ _) ?_; conv => whnf)) | ((intro row hrow; obtain rfl := Option.some.inj hrow; conv => whnf)) | refine AW.seq ?_ | refine AW.block ?_ | (refine (id : AW _ _ _ (.region 6 _ true) _ _ → _) ?_; refine AW.draw (id := 6) tab_ok mixed [0, 1, 2, 3, 5, 6, 7, 8, 4, 9, 10] (by kernel_rfl) ?_; conv => whnf) | ((first | refine AW.region tab_ok ?_ | refine AW.cond ?_ | refine AW.skip ?_ | refine AW.ret ?_ | refine AW.exit ?_); conv => whnf) | ((first | refine (mt0).mono ?_ | refine (ar0).mono ?_ | refine (ar1).mono ?_); rintro _ _ ⟨rfl, rfl⟩; conv => whnf) | ((first | refine And.intro (@rfl Val _) ?_ | refine And.intro (by decide) ?_ | refine cs (fun _ => ?_) (fun _ => ?_)) <;> conv => whnf)
  all_goals first | exact ⟨rfl, rfl⟩
set_option maxRecDepth 10000 in
set_option maxHeartbeats 4000000 in
theorem inn7_0 (name arg : ByteArray) (num tk : Int) (tks : List Ty) (uk : Int) (uks : List Ty) (label place : Int) (l : List Bd) (hl : l.length ≤ 90000) (t0 t1 : Tm)
    : ACall Tryz.prog 66 [(Tm.node 7 name arg num tk tks uk uks label place [t0, t1]).val, .c (.d (.sl 0 3 (bds l))), .c (.d (.int .i64 0))] [] (fun o σ => o = .ret (.c (.d (.sl 0 3 (bds (l))))) ∧ σ = []) := by
  refine ACall.body tab_ok (ρ := 0) (N := 82) Tryz.func66 rfl rfl rfl rfl rfl ?_
  repeat' first | ((refine AW.rounds 5 ?_; conv => whnf)) | ((refine And.intro (⟨by decide, by first | decide | (simp [Tm.rows, Pf.rows]; done) | (simp [Tm.rows, Pf.rows]; decide)⟩ : _ ∧ _) ?_; conv => whnf)) | ((intro row hrow; obtain rfl := Option.some.inj hrow; conv => whnf)) | refine AW.seq ?_ | refine AW.block ?_ | (refine (id : AW _ _ _ (.region 6 _ true) _ _ → _) ?_; refine AW.draw (id := 6) tab_ok mixed [0, 1, 2, 3, 5, 6, 7, 8, 4, 9, 10] (by kernel_rfl) ?_; conv => whnf) | ((first | refine AW.region tab_ok ?_ | refine AW.cond ?_ | refine AW.skip ?_ | refine AW.ret ?_ | refine AW.exit ?_); conv => whnf) | ((first | refine And.intro (@rfl Val _) ?_ | refine And.intro (by decide) ?_ | refine cs (fun _ => ?_) (fun _ => ?_)) <;> conv => whnf)
  all_goals first | exact ⟨rfl, rfl⟩
set_option maxRecDepth 10000 in
set_option maxHeartbeats 4000000 in
theorem inn7_1 (name arg : ByteArray) (num tk : Int) (tks : List Ty) (uk : Int) (uks : List Ty) (label place : Int) (l : List Bd) (hl : l.length ≤ 90000) (t0 t1 : Tm)
    : ACall Tryz.prog 66 [(Tm.node 7 name arg num tk tks uk uks label place [t0, t1]).val, .c (.d (.sl 0 3 (bds l))), .c (.d (.int .i64 1))] [] (fun o σ => o = .ret (.c (.d (.sl 0 3 (bds (l ++ [⟨name, .node tk tks⟩]))))) ∧ σ = []) := by
  have ar0 := RAround_call l name (.node tk tks) (by omega)
  generalize bds (l ++ [⟨name, .node tk tks⟩]) = l1 at *
  generalize bds l = l0 at *
  refine ACall.body tab_ok (ρ := 0) (N := 82) Tryz.func66 rfl rfl rfl rfl rfl ?_
  repeat' first | ((refine AW.rounds 5 ?_; conv => whnf)) | ((refine And.intro (⟨by decide, by first | decide | (simp [Tm.rows, Pf.rows]; done) | (simp [Tm.rows, Pf.rows]; decide)⟩ : _ ∧ _) ?_; conv => whnf)) | ((intro row hrow; obtain rfl := Option.some.inj hrow; conv => whnf)) | refine AW.seq ?_ | refine AW.block ?_ | (refine (id : AW _ _ _ (.region 6 _ true) _ _ → _) ?_; refine AW.draw (id := 6) tab_ok mixed [0, 1, 2, 3, 5, 6, 7, 8, 4, 9, 10] (by kernel_rfl) ?_; conv => whnf) | ((first | refine AW.region tab_ok ?_ | refine AW.cond ?_ | refine AW.skip ?_ | refine AW.ret ?_ | refine AW.exit ?_); conv => whnf) | (refine (ar0).mono ?_; rintro _ _ ⟨rfl, rfl⟩; conv => whnf) | ((first | refine And.intro (@rfl Val _) ?_ | refine And.intro (by decide) ?_ | refine cs (fun _ => ?_) (fun _ => ?_)) <;> conv => whnf)
  all_goals first | exact ⟨rfl, rfl⟩
set_option maxRecDepth 10000 in
set_option maxHeartbeats 4000000 in
theorem inn14_0 (name arg : ByteArray) (num tk : Int) (tks : List Ty) (uk : Int) (uks : List Ty) (label place : Int) (l : List Bd) (hl : l.length ≤ 90000) (t0 t1 t2 : Tm) (q : Ty × Flt)
    (c0 : ACall Tryz.prog 23 [t0.val, .c (.d (.sl 0 3 (bds l))), .c (.d (.int .i64 0))] [] (fun o σ => o = rV q ∧ σ = []))
    : ACall Tryz.prog 66 [(Tm.node 14 name arg num tk tks uk uks label place [t0, t1, t2]).val, .c (.d (.sl 0 3 (bds l))), .c (.d (.int .i64 0))] [] (fun o σ => o = .ret (.c (.d (.sl 0 3 (bds (l))))) ∧ σ = []) := by
  obtain ⟨k0, n0, g0, m0, tk0, ts0, uk0, us0, b0, p0, ks0⟩ := t0
  have as0 := RAs_call 5 (by simp) q.1
  generalize bds l = l0 at *
  generalize asL 5 q.1 = x at *
  generalize asR 5 q.1 = y at *
  generalize asB 5 q.1 = z at *
  obtain ⟨xk, xs⟩ := x
  obtain ⟨yk, ys⟩ := y
  obtain ⟨⟨a0, s0⟩, ⟨e0, x0, w0⟩⟩ := q
  dsimp only at *
  refine ACall.body tab_ok (ρ := 0) (N := 82) Tryz.func66 rfl rfl rfl rfl rfl ?_
  repeat' first | ((refine AW.rounds 5 ?_; conv => whnf)) | ((refine And.intro (⟨by decide, by first | decide | (simp [Tm.rows, Pf.rows]; done) | (simp [Tm.rows, Pf.rows]; decide)⟩ : _ ∧ _) ?_; conv => whnf)) | ((intro row hrow; obtain rfl := Option.some.inj hrow; conv => whnf)) | refine AW.seq ?_ | refine AW.block ?_ | (refine (id : AW _ _ _ (.region 6 _ true) _ _ → _) ?_; refine AW.draw (id := 6) tab_ok mixed [0, 1, 2, 3, 5, 6, 7, 8, 4, 9, 10] (by kernel_rfl) ?_; conv => whnf) | ((first | refine AW.region tab_ok ?_ | refine AW.cond ?_ | refine AW.skip ?_ | refine AW.ret ?_ | refine AW.exit ?_); conv => whnf) | ((first | refine (c0).mono ?_ | refine (as0).mono ?_); rintro _ _ ⟨rfl, rfl⟩; conv => whnf) | ((first | refine And.intro (@rfl Val _) ?_ | refine And.intro (by decide) ?_ | refine cs (fun _ => ?_) (fun _ => ?_)) <;> conv => whnf)
  all_goals first | exact ⟨rfl, rfl⟩
set_option maxRecDepth 10000 in
set_option maxHeartbeats 4000000 in
theorem inn14_1 (name arg : ByteArray) (num tk : Int) (tks : List Ty) (uk : Int) (uks : List Ty) (label place : Int) (l : List Bd) (hl : l.length ≤ 90000) (t0 t1 t2 : Tm) (q : Ty × Flt)
    (c0 : ACall Tryz.prog 23 [t0.val, .c (.d (.sl 0 3 (bds l))), .c (.d (.int .i64 0))] [] (fun o σ => o = rV q ∧ σ = []))
    : ACall Tryz.prog 66 [(Tm.node 14 name arg num tk tks uk uks label place [t0, t1, t2]).val, .c (.d (.sl 0 3 (bds l))), .c (.d (.int .i64 1))] [] (fun o σ => o = .ret (.c (.d (.sl 0 3 (bds (l ++ [⟨name, asL 5 q.1⟩]))))) ∧ σ = []) := by
  obtain ⟨k0, n0, g0, m0, tk0, ts0, uk0, us0, b0, p0, ks0⟩ := t0
  have as0 := RAs_call 5 (by simp) q.1
  have ar0 := RAround_call l name (asL 5 q.1) (by omega)
  generalize bds (l ++ [⟨name, asL 5 q.1⟩]) = l1 at *
  generalize bds l = l0 at *
  generalize asL 5 q.1 = x at *
  generalize asR 5 q.1 = y at *
  generalize asB 5 q.1 = z at *
  obtain ⟨xk, xs⟩ := x
  obtain ⟨yk, ys⟩ := y
  obtain ⟨⟨a0, s0⟩, ⟨e0, x0, w0⟩⟩ := q
  dsimp only at *
  refine ACall.body tab_ok (ρ := 0) (N := 82) Tryz.func66 rfl rfl rfl rfl rfl ?_
  repeat' first | ((refine AW.rounds 5 ?_; conv => whnf)) | ((refine And.intro (⟨by decide, by first | decide | (simp [Tm.rows, Pf.rows]; done) | (simp [Tm.rows, Pf.rows]; decide)⟩ : _ ∧ _) ?_; conv => whnf)) | ((intro row hrow; obtain rfl := Option.some.inj hrow; conv => whnf)) | refine AW.seq ?_ | refine AW.block ?_ | (refine (id : AW _ _ _ (.region 6 _ true) _ _ → _) ?_; refine AW.draw (id := 6) tab_ok mixed [0, 1, 2, 3, 5, 6, 7, 8, 4, 9, 10] (by kernel_rfl) ?_; conv => whnf) | ((first | refine AW.region tab_ok ?_ | refine AW.cond ?_ | refine AW.skip ?_ | refine AW.ret ?_ | refine AW.exit ?_); conv => whnf) | ((first | refine (c0).mono ?_ | refine (as0).mono ?_ | refine (ar0).mono ?_); rintro _ _ ⟨rfl, rfl⟩; conv => whnf) | ((first | refine And.intro (@rfl Val _) ?_ | refine And.intro (by decide) ?_ | refine cs (fun _ => ?_) (fun _ => ?_)) <;> conv => whnf)
  all_goals first | exact ⟨rfl, rfl⟩
set_option maxRecDepth 10000 in
set_option maxHeartbeats 4000000 in
theorem inn14_2 (name arg : ByteArray) (num tk : Int) (tks : List Ty) (uk : Int) (uks : List Ty) (label place : Int) (l : List Bd) (hl : l.length ≤ 90000) (t0 t1 t2 : Tm) (q : Ty × Flt)
    (c0 : ACall Tryz.prog 23 [t0.val, .c (.d (.sl 0 3 (bds l))), .c (.d (.int .i64 0))] [] (fun o σ => o = rV q ∧ σ = []))
    : ACall Tryz.prog 66 [(Tm.node 14 name arg num tk tks uk uks label place [t0, t1, t2]).val, .c (.d (.sl 0 3 (bds l))), .c (.d (.int .i64 2))] [] (fun o σ => o = .ret (.c (.d (.sl 0 3 (bds (l ++ [⟨arg, asR 5 q.1⟩]))))) ∧ σ = []) := by
  obtain ⟨k0, n0, g0, m0, tk0, ts0, uk0, us0, b0, p0, ks0⟩ := t0
  have as0 := RAs_call 5 (by simp) q.1
  have ar0 := RAround_call l arg (asR 5 q.1) (by omega)
  generalize bds (l ++ [⟨arg, asR 5 q.1⟩]) = l1 at *
  generalize bds l = l0 at *
  generalize asL 5 q.1 = x at *
  generalize asR 5 q.1 = y at *
  generalize asB 5 q.1 = z at *
  obtain ⟨xk, xs⟩ := x
  obtain ⟨yk, ys⟩ := y
  obtain ⟨⟨a0, s0⟩, ⟨e0, x0, w0⟩⟩ := q
  dsimp only at *
  refine ACall.body tab_ok (ρ := 0) (N := 82) Tryz.func66 rfl rfl rfl rfl rfl ?_
  repeat' first | ((refine AW.rounds 5 ?_; conv => whnf)) | ((refine And.intro (⟨by decide, by first | decide | (simp [Tm.rows, Pf.rows]; done) | (simp [Tm.rows, Pf.rows]; decide)⟩ : _ ∧ _) ?_; conv => whnf)) | ((intro row hrow; obtain rfl := Option.some.inj hrow; conv => whnf)) | refine AW.seq ?_ | refine AW.block ?_ | (refine (id : AW _ _ _ (.region 6 _ true) _ _ → _) ?_; refine AW.draw (id := 6) tab_ok mixed [0, 1, 2, 3, 5, 6, 7, 8, 4, 9, 10] (by kernel_rfl) ?_; conv => whnf) | ((first | refine AW.region tab_ok ?_ | refine AW.cond ?_ | refine AW.skip ?_ | refine AW.ret ?_ | refine AW.exit ?_); conv => whnf) | ((first | refine (c0).mono ?_ | refine (as0).mono ?_ | refine (ar0).mono ?_); rintro _ _ ⟨rfl, rfl⟩; conv => whnf) | ((first | refine And.intro (@rfl Val _) ?_ | refine And.intro (by decide) ?_ | refine cs (fun _ => ?_) (fun _ => ?_)) <;> conv => whnf)
  all_goals first | exact ⟨rfl, rfl⟩
set_option maxRecDepth 10000 in
set_option maxHeartbeats 4000000 in
theorem inn6_i (name arg : ByteArray) (num tk : Int) (tks : List Ty) (uk : Int) (uks : List Ty) (label place : Int) (l : List Bd) (hl : l.length ≤ 90000) (t0 t1 : Tm) (i : Nat)
    : ACall Tryz.prog 66 [(Tm.node 6 name arg num tk tks uk uks label place [t0, t1]).val, .c (.d (.sl 0 3 (bds l))), .c (.d (.int .i64 i))] [] (fun o σ => o = .ret (.c (.d (.sl 0 3 (bds (l))))) ∧ σ = []) := by
  refine ACall.body tab_ok (ρ := 0) (N := 82) Tryz.func66 rfl rfl rfl rfl rfl ?_
  repeat' first | ((refine AW.rounds 5 ?_; conv => whnf)) | ((refine And.intro (⟨by decide, by first | decide | (simp [Tm.rows, Pf.rows]; done) | (simp [Tm.rows, Pf.rows]; decide)⟩ : _ ∧ _) ?_; conv => whnf)) | ((intro row hrow; obtain rfl := Option.some.inj hrow; conv => whnf)) | refine AW.seq ?_ | refine AW.block ?_ | (refine (id : AW _ _ _ (.region 6 _ true) _ _ → _) ?_; refine AW.draw (id := 6) tab_ok mixed [0, 1, 2, 3, 5, 6, 7, 8, 4, 9, 10] (by kernel_rfl) ?_; conv => whnf) | ((first | refine AW.region tab_ok ?_ | refine AW.cond ?_ | refine AW.skip ?_ | refine AW.ret ?_ | refine AW.exit ?_); conv => whnf) | ((first | refine And.intro (@rfl Val _) ?_ | refine And.intro (by decide) ?_ | refine cs (fun _ => ?_) (fun _ => ?_)) <;> conv => whnf)
  all_goals first | exact ⟨rfl, rfl⟩
set_option maxRecDepth 10000 in
set_option maxHeartbeats 4000000 in
theorem inn8_i (name arg : ByteArray) (num tk : Int) (tks : List Ty) (uk : Int) (uks : List Ty) (label place : Int) (l : List Bd) (hl : l.length ≤ 90000) (t0 t1 t2 : Tm) (i : Nat)
    : ACall Tryz.prog 66 [(Tm.node 8 name arg num tk tks uk uks label place [t0, t1, t2]).val, .c (.d (.sl 0 3 (bds l))), .c (.d (.int .i64 i))] [] (fun o σ => o = .ret (.c (.d (.sl 0 3 (bds (l))))) ∧ σ = []) := by
  refine ACall.body tab_ok (ρ := 0) (N := 82) Tryz.func66 rfl rfl rfl rfl rfl ?_
  repeat' first | ((refine AW.rounds 5 ?_; conv => whnf)) | ((refine And.intro (⟨by decide, by first | decide | (simp [Tm.rows, Pf.rows]; done) | (simp [Tm.rows, Pf.rows]; decide)⟩ : _ ∧ _) ?_; conv => whnf)) | ((intro row hrow; obtain rfl := Option.some.inj hrow; conv => whnf)) | refine AW.seq ?_ | refine AW.block ?_ | (refine (id : AW _ _ _ (.region 6 _ true) _ _ → _) ?_; refine AW.draw (id := 6) tab_ok mixed [0, 1, 2, 3, 5, 6, 7, 8, 4, 9, 10] (by kernel_rfl) ?_; conv => whnf) | ((first | refine AW.region tab_ok ?_ | refine AW.cond ?_ | refine AW.skip ?_ | refine AW.ret ?_ | refine AW.exit ?_); conv => whnf) | ((first | refine And.intro (@rfl Val _) ?_ | refine And.intro (by decide) ?_ | refine cs (fun _ => ?_) (fun _ => ?_)) <;> conv => whnf)
  all_goals first | exact ⟨rfl, rfl⟩
set_option maxRecDepth 10000 in
set_option maxHeartbeats 4000000 in
theorem inn9_i (name arg : ByteArray) (num tk : Int) (tks : List Ty) (uk : Int) (uks : List Ty) (label place : Int) (l : List Bd) (hl : l.length ≤ 90000) (t0 t1 : Tm) (i : Nat)
    : ACall Tryz.prog 66 [(Tm.node 9 name arg num tk tks uk uks label place [t0, t1]).val, .c (.d (.sl 0 3 (bds l))), .c (.d (.int .i64 i))] [] (fun o σ => o = .ret (.c (.d (.sl 0 3 (bds (l))))) ∧ σ = []) := by
  refine ACall.body tab_ok (ρ := 0) (N := 82) Tryz.func66 rfl rfl rfl rfl rfl ?_
  repeat' first | ((refine AW.rounds 5 ?_; conv => whnf)) | ((refine And.intro (⟨by decide, by first | decide | (simp [Tm.rows, Pf.rows]; done) | (simp [Tm.rows, Pf.rows]; decide)⟩ : _ ∧ _) ?_; conv => whnf)) | ((intro row hrow; obtain rfl := Option.some.inj hrow; conv => whnf)) | refine AW.seq ?_ | refine AW.block ?_ | (refine (id : AW _ _ _ (.region 6 _ true) _ _ → _) ?_; refine AW.draw (id := 6) tab_ok mixed [0, 1, 2, 3, 5, 6, 7, 8, 4, 9, 10] (by kernel_rfl) ?_; conv => whnf) | ((first | refine AW.region tab_ok ?_ | refine AW.cond ?_ | refine AW.skip ?_ | refine AW.ret ?_ | refine AW.exit ?_); conv => whnf) | ((first | refine And.intro (@rfl Val _) ?_ | refine And.intro (by decide) ?_ | refine cs (fun _ => ?_) (fun _ => ?_)) <;> conv => whnf)
  all_goals first | exact ⟨rfl, rfl⟩
set_option maxRecDepth 10000 in
set_option maxHeartbeats 4000000 in
theorem inn10_i (name arg : ByteArray) (num tk : Int) (tks : List Ty) (uk : Int) (uks : List Ty) (label place : Int) (l : List Bd) (hl : l.length ≤ 90000) (t0 : Tm) (i : Nat)
    : ACall Tryz.prog 66 [(Tm.node 10 name arg num tk tks uk uks label place [t0]).val, .c (.d (.sl 0 3 (bds l))), .c (.d (.int .i64 i))] [] (fun o σ => o = .ret (.c (.d (.sl 0 3 (bds (l))))) ∧ σ = []) := by
  refine ACall.body tab_ok (ρ := 0) (N := 82) Tryz.func66 rfl rfl rfl rfl rfl ?_
  repeat' first | ((refine AW.rounds 5 ?_; conv => whnf)) | ((refine And.intro (⟨by decide, by first | decide | (simp [Tm.rows, Pf.rows]; done) | (simp [Tm.rows, Pf.rows]; decide)⟩ : _ ∧ _) ?_; conv => whnf)) | ((intro row hrow; obtain rfl := Option.some.inj hrow; conv => whnf)) | refine AW.seq ?_ | refine AW.block ?_ | (refine (id : AW _ _ _ (.region 6 _ true) _ _ → _) ?_; refine AW.draw (id := 6) tab_ok mixed [0, 1, 2, 3, 5, 6, 7, 8, 4, 9, 10] (by kernel_rfl) ?_; conv => whnf) | ((first | refine AW.region tab_ok ?_ | refine AW.cond ?_ | refine AW.skip ?_ | refine AW.ret ?_ | refine AW.exit ?_); conv => whnf) | ((first | refine And.intro (@rfl Val _) ?_ | refine And.intro (by decide) ?_ | refine cs (fun _ => ?_) (fun _ => ?_)) <;> conv => whnf)
  all_goals first | exact ⟨rfl, rfl⟩
set_option maxRecDepth 10000 in
set_option maxHeartbeats 4000000 in
theorem inn11_i (name arg : ByteArray) (num tk : Int) (tks : List Ty) (uk : Int) (uks : List Ty) (label place : Int) (l : List Bd) (hl : l.length ≤ 90000) (t0 : Tm) (i : Nat)
    : ACall Tryz.prog 66 [(Tm.node 11 name arg num tk tks uk uks label place [t0]).val, .c (.d (.sl 0 3 (bds l))), .c (.d (.int .i64 i))] [] (fun o σ => o = .ret (.c (.d (.sl 0 3 (bds (l))))) ∧ σ = []) := by
  refine ACall.body tab_ok (ρ := 0) (N := 82) Tryz.func66 rfl rfl rfl rfl rfl ?_
  repeat' first | ((refine AW.rounds 5 ?_; conv => whnf)) | ((refine And.intro (⟨by decide, by first | decide | (simp [Tm.rows, Pf.rows]; done) | (simp [Tm.rows, Pf.rows]; decide)⟩ : _ ∧ _) ?_; conv => whnf)) | ((intro row hrow; obtain rfl := Option.some.inj hrow; conv => whnf)) | refine AW.seq ?_ | refine AW.block ?_ | (refine (id : AW _ _ _ (.region 6 _ true) _ _ → _) ?_; refine AW.draw (id := 6) tab_ok mixed [0, 1, 2, 3, 5, 6, 7, 8, 4, 9, 10] (by kernel_rfl) ?_; conv => whnf) | ((first | refine AW.region tab_ok ?_ | refine AW.cond ?_ | refine AW.skip ?_ | refine AW.ret ?_ | refine AW.exit ?_); conv => whnf) | ((first | refine And.intro (@rfl Val _) ?_ | refine And.intro (by decide) ?_ | refine cs (fun _ => ?_) (fun _ => ?_)) <;> conv => whnf)
  all_goals first | exact ⟨rfl, rfl⟩
set_option maxRecDepth 10000 in
set_option maxHeartbeats 4000000 in
theorem inn12_i (name arg : ByteArray) (num tk : Int) (tks : List Ty) (uk : Int) (uks : List Ty) (label place : Int) (l : List Bd) (hl : l.length ≤ 90000) (t0 : Tm) (i : Nat)
    : ACall Tryz.prog 66 [(Tm.node 12 name arg num tk tks uk uks label place [t0]).val, .c (.d (.sl 0 3 (bds l))), .c (.d (.int .i64 i))] [] (fun o σ => o = .ret (.c (.d (.sl 0 3 (bds (l))))) ∧ σ = []) := by
  refine ACall.body tab_ok (ρ := 0) (N := 82) Tryz.func66 rfl rfl rfl rfl rfl ?_
  repeat' first | ((refine AW.rounds 5 ?_; conv => whnf)) | ((refine And.intro (⟨by decide, by first | decide | (simp [Tm.rows, Pf.rows]; done) | (simp [Tm.rows, Pf.rows]; decide)⟩ : _ ∧ _) ?_; conv => whnf)) | ((intro row hrow; obtain rfl := Option.some.inj hrow; conv => whnf)) | refine AW.seq ?_ | refine AW.block ?_ | (refine (id : AW _ _ _ (.region 6 _ true) _ _ → _) ?_; refine AW.draw (id := 6) tab_ok mixed [0, 1, 2, 3, 5, 6, 7, 8, 4, 9, 10] (by kernel_rfl) ?_; conv => whnf) | ((first | refine AW.region tab_ok ?_ | refine AW.cond ?_ | refine AW.skip ?_ | refine AW.ret ?_ | refine AW.exit ?_); conv => whnf) | ((first | refine And.intro (@rfl Val _) ?_ | refine And.intro (by decide) ?_ | refine cs (fun _ => ?_) (fun _ => ?_)) <;> conv => whnf)
  all_goals first | exact ⟨rfl, rfl⟩
set_option maxRecDepth 10000 in
set_option maxHeartbeats 4000000 in
theorem inn13_i (name arg : ByteArray) (num tk : Int) (tks : List Ty) (uk : Int) (uks : List Ty) (label place : Int) (l : List Bd) (hl : l.length ≤ 90000) (t0 : Tm) (i : Nat)
    : ACall Tryz.prog 66 [(Tm.node 13 name arg num tk tks uk uks label place [t0]).val, .c (.d (.sl 0 3 (bds l))), .c (.d (.int .i64 i))] [] (fun o σ => o = .ret (.c (.d (.sl 0 3 (bds (l))))) ∧ σ = []) := by
  refine ACall.body tab_ok (ρ := 0) (N := 82) Tryz.func66 rfl rfl rfl rfl rfl ?_
  repeat' first | ((refine AW.rounds 5 ?_; conv => whnf)) | ((refine And.intro (⟨by decide, by first | decide | (simp [Tm.rows, Pf.rows]; done) | (simp [Tm.rows, Pf.rows]; decide)⟩ : _ ∧ _) ?_; conv => whnf)) | ((intro row hrow; obtain rfl := Option.some.inj hrow; conv => whnf)) | refine AW.seq ?_ | refine AW.block ?_ | (refine (id : AW _ _ _ (.region 6 _ true) _ _ → _) ?_; refine AW.draw (id := 6) tab_ok mixed [0, 1, 2, 3, 5, 6, 7, 8, 4, 9, 10] (by kernel_rfl) ?_; conv => whnf) | ((first | refine AW.region tab_ok ?_ | refine AW.cond ?_ | refine AW.skip ?_ | refine AW.ret ?_ | refine AW.exit ?_); conv => whnf) | ((first | refine And.intro (@rfl Val _) ?_ | refine And.intro (by decide) ?_ | refine cs (fun _ => ?_) (fun _ => ?_)) <;> conv => whnf)
  all_goals first | exact ⟨rfl, rfl⟩
set_option maxRecDepth 10000 in
set_option maxHeartbeats 4000000 in
theorem inn15_i (name arg : ByteArray) (num tk : Int) (tks : List Ty) (uk : Int) (uks : List Ty) (label place : Int) (l : List Bd) (hl : l.length ≤ 90000) (t0 t1 : Tm) (i : Nat)
    : ACall Tryz.prog 66 [(Tm.node 15 name arg num tk tks uk uks label place [t0, t1]).val, .c (.d (.sl 0 3 (bds l))), .c (.d (.int .i64 i))] [] (fun o σ => o = .ret (.c (.d (.sl 0 3 (bds (l))))) ∧ σ = []) := by
  refine ACall.body tab_ok (ρ := 0) (N := 82) Tryz.func66 rfl rfl rfl rfl rfl ?_
  repeat' first | ((refine AW.rounds 5 ?_; conv => whnf)) | ((refine And.intro (⟨by decide, by first | decide | (simp [Tm.rows, Pf.rows]; done) | (simp [Tm.rows, Pf.rows]; decide)⟩ : _ ∧ _) ?_; conv => whnf)) | ((intro row hrow; obtain rfl := Option.some.inj hrow; conv => whnf)) | refine AW.seq ?_ | refine AW.block ?_ | (refine (id : AW _ _ _ (.region 6 _ true) _ _ → _) ?_; refine AW.draw (id := 6) tab_ok mixed [0, 1, 2, 3, 5, 6, 7, 8, 4, 9, 10] (by kernel_rfl) ?_; conv => whnf) | ((first | refine AW.region tab_ok ?_ | refine AW.cond ?_ | refine AW.skip ?_ | refine AW.ret ?_ | refine AW.exit ?_); conv => whnf) | ((first | refine And.intro (@rfl Val _) ?_ | refine And.intro (by decide) ?_ | refine cs (fun _ => ?_) (fun _ => ?_)) <;> conv => whnf)
  all_goals first | exact ⟨rfl, rfl⟩
set_option maxRecDepth 10000 in
set_option maxHeartbeats 4000000 in
theorem inn16_i (name arg : ByteArray) (num tk : Int) (tks : List Ty) (uk : Int) (uks : List Ty) (label place : Int) (l : List Bd) (hl : l.length ≤ 90000) (t0 : Tm) (i : Nat)
    : ACall Tryz.prog 66 [(Tm.node 16 name arg num tk tks uk uks label place [t0]).val, .c (.d (.sl 0 3 (bds l))), .c (.d (.int .i64 i))] [] (fun o σ => o = .ret (.c (.d (.sl 0 3 (bds (l))))) ∧ σ = []) := by
  refine ACall.body tab_ok (ρ := 0) (N := 82) Tryz.func66 rfl rfl rfl rfl rfl ?_
  repeat' first | ((refine AW.rounds 5 ?_; conv => whnf)) | ((refine And.intro (⟨by decide, by first | decide | (simp [Tm.rows, Pf.rows]; done) | (simp [Tm.rows, Pf.rows]; decide)⟩ : _ ∧ _) ?_; conv => whnf)) | ((intro row hrow; obtain rfl := Option.some.inj hrow; conv => whnf)) | refine AW.seq ?_ | refine AW.block ?_ | (refine (id : AW _ _ _ (.region 6 _ true) _ _ → _) ?_; refine AW.draw (id := 6) tab_ok mixed [0, 1, 2, 3, 5, 6, 7, 8, 4, 9, 10] (by kernel_rfl) ?_; conv => whnf) | ((first | refine AW.region tab_ok ?_ | refine AW.cond ?_ | refine AW.skip ?_ | refine AW.ret ?_ | refine AW.exit ?_); conv => whnf) | ((first | refine And.intro (@rfl Val _) ?_ | refine And.intro (by decide) ?_ | refine cs (fun _ => ?_) (fun _ => ?_)) <;> conv => whnf)
  all_goals first | exact ⟨rfl, rfl⟩
end Go.Proofs.YtlboogackecjlaaGreat.E
