/- Walks: below.Pos, below.Neg. No conditions. -/
import Derived.Test.YtoglfnjankinnaaTy7
import Derived.Test.YtoglfnjankinnaaTy6
set_option linter.unusedVariables false
set_option linter.unusedSimpArgs false
namespace Go.Proofs.Ytoglfnjankinnaa.E
open Go

theorem deepF_kid {k : Int} {ks : List Ty} {t : Ty} (ht : t ∈ ks) (n : Nat) (hn : 1 < n) : deepF t (n - 1) + 1 ≤ deepF (.node k ks) n := by
  have : ∀ (l : List Ty) m, t ∈ l → deepF t m ≤ deepL l m := fun l m => by
    induction l with
    | nil => intro h; cases h
    | cons x l ih =>
      intro h
      simp only [deepL]
      rcases List.mem_cons.1 h with rfl | h
      · omega
      · have := ih h; omega
  have := this ks (n - 1) ht
  simp only [deepF]
  rw [if_neg (by omega)]
  omega
theorem deepF_step (t : Ty) : ∀ m, deepF t (m + 1) ≤ deepF t m + 1 ∧ (deepF t m < m → deepF t (m + 1) = deepF t m) := by
  induction t using Ty.ind with
  | _ k ks ih =>
  intro m
  have hl : ∀ (l : List Ty) (m : Nat), (∀ t ∈ l, ∀ m, deepF t (m + 1) ≤ deepF t m + 1 ∧ (deepF t m < m → deepF t (m + 1) = deepF t m)) → deepL l (m + 1) ≤ deepL l m + 1 ∧ (deepL l m < m → deepL l (m + 1) = deepL l m) := fun l m => by
    induction l with
    | nil => intro _; simp [deepL]
    | cons x l ihl =>
      intro h
      have h1 := h x (by simp) m
      have h2 := ihl fun t ht => h t (by simp [ht])
      simp only [deepL]
      omega
  have := hl ks (m - 1) ih
  simp only [deepF]
  by_cases h1 : m ≤ 1
  · rw [if_pos h1]
    by_cases h0 : m = 0
    · subst h0; simp
    · obtain rfl : m = 1 := by omega
      rw [if_neg (by omega)]
      have h3 : deepL ks (1 + 1 - 1) ≤ 1 := deepL_le ks 1
      refine ⟨by omega, fun h => by omega⟩
  · rw [if_neg h1, if_neg (by omega)]
    rw [show m + 1 - 1 = m - 1 + 1 by omega]
    omega
theorem tcheck_kid {k : Int} {ks : List Ty} (h : tcheck (.node k ks) = 0) {t : Ty} (ht : t ∈ ks) : tcheck t = 0 := by
  have hr := tcheck_right h
  have hn := nodes_mem ks t ht
  have hd : deepF t 200 + 1 ≤ deepF (.node k ks) 201 := deepF_kid (k := k) ht 201 (by omega)
  have hs : deepF t 201 ≤ deepF t 200 + 1 ∧ (deepF t 200 < 200 → deepF t 201 = deepF t 200) := deepF_step t 200
  unfold tcheck at h ⊢
  simp only [nodes] at h
  split at h
  · omega
  · split at h
    · omega
    · have e : deepF t 200 < 200 := by omega
      rw [if_neg (by omega), if_neg (by have := hs.2 e; omega), if_pos (tright_kid hr ht)]

/-! ### The relations -/
/-- Positively below (false), negatively (true). -/
def holdF : Nat → Bool → Ty → Ty → Bool
  | 0, _, _, _ => false
  | n + 1, w, .node k ks, .node k' ks' =>
    if k = 0 then (if k' = 0 then true else w)
    else if k' = 0 then (if w then (if ks.isEmpty then true
        else if k = 3 then holdF n false (.node 0 []) (ks.getD 0 (.node 0 [])) && holdF n true (ks.getD 1 (.node 0 [])) (.node 0 [])
        else holdF n true (ks.getD 0 (.node 0 [])) (.node 0 []) && holdF n true (ks.getD 1 (.node 0 [])) (.node 0 [])) else true)
    else if k ≠ k' then false
    else if ks.isEmpty then true
    else if k = 3 then holdF n (!w) (ks'.getD 0 (.node 0 [])) (ks.getD 0 (.node 0 [])) && holdF n w (ks.getD 1 (.node 0 [])) (ks'.getD 1 (.node 0 []))
    else holdF n w (ks.getD 0 (.node 0 [])) (ks'.getD 0 (.node 0 [])) && holdF n w (ks.getD 1 (.node 0 [])) (ks'.getD 1 (.node 0 []))
def wayV (w : Bool) : Val := .agg [.fn (if w then 177 else 176) [] [], .d (.bool w), .fn (if w then 145 else 146) [] []]
def pairV (a b : Ty) : Val := .agg ((a.cells ++ b.cells).map .d)
set_option maxRecDepth 10000 in
theorem pos_call : ACall Try.prog 145 [] [] (fun o σ => o = .ret (wayV false) ∧ σ = []) := by
  refine ACall.body tab_ok (ρ := 0) (N := 2) Try.func145 rfl rfl rfl rfl rfl ?_
  repeat' first
    | refine AW.seq ?_
    | refine AW.block ?_
    | (refine AW.region tab_ok ?_; conv => whnf)
    | (refine AW.cond ?_; conv => whnf)
    | (refine AW.skip ?_; conv => whnf)
    | (refine AW.ret ?_; conv => whnf)
    | (refine AW.exit ?_; conv => whnf)
    | (refine And.intro (@rfl Val _) ?_; conv => whnf)
    | (refine And.intro (by decide) ?_; conv => whnf)
    | (refine cs (fun _ => ?_) (fun _ => ?_) <;> conv => whnf)
  exact ⟨rfl, rfl⟩
set_option maxRecDepth 10000 in
theorem neg_call : ACall Try.prog 146 [] [] (fun o σ => o = .ret (wayV true) ∧ σ = []) := by
  refine ACall.body tab_ok (ρ := 0) (N := 2) Try.func146 rfl rfl rfl rfl rfl ?_
  repeat' first
    | refine AW.seq ?_
    | refine AW.block ?_
    | (refine AW.region tab_ok ?_; conv => whnf)
    | (refine AW.cond ?_; conv => whnf)
    | (refine AW.skip ?_; conv => whnf)
    | (refine AW.ret ?_; conv => whnf)
    | (refine AW.exit ?_; conv => whnf)
    | (refine And.intro (@rfl Val _) ?_; conv => whnf)
    | (refine And.intro (by decide) ?_; conv => whnf)
    | (refine cs (fun _ => ?_) (fun _ => ?_) <;> conv => whnf)
  exact ⟨rfl, rfl⟩
set_option maxRecDepth 10000 in
theorem pos1_call (a b : Ty) : ACall Try.prog 176 [pairV a b, wayV false] [] (fun o σ => o = .ret (.c (.d (.bool true))) ∧ σ = []) := by
  obtain ⟨k, ks⟩ := a
  obtain ⟨k', ks'⟩ := b
  refine ACall.body tab_ok (ρ := 0) (N := 5) Try.func176 rfl rfl rfl rfl rfl ?_
  repeat' first
    | refine AW.seq ?_
    | refine AW.block ?_
    | (refine AW.region tab_ok ?_; conv => whnf)
    | (refine AW.cond ?_; conv => whnf)
    | (refine AW.skip ?_; conv => whnf)
    | (refine AW.ret ?_; conv => whnf)
    | (refine AW.exit ?_; conv => whnf)
    | (refine And.intro (@rfl Val _) ?_; conv => whnf)
    | (refine And.intro (by decide) ?_; conv => whnf)
    | (refine cs (fun _ => ?_) (fun _ => ?_) <;> conv => whnf)
  exact ⟨rfl, rfl⟩
/-- The ground of a type. -/
def groundF : Ty → Ty
  | .node k ks => .node k (ks.map fun _ => .node 0 [])
theorem parts_two {k : Int} {ks : List Ty} (h : tright (.node k ks) = true) (hk : k ≠ 0) : (ks = [] ∧ (k = 1 ∨ k = 2)) ∨ ∃ a b, ks = [a, b] ∧ (k = 3 ∨ k = 4 ∨ k = 5) := by
  have hp := tright_len h
  unfold parts at hp
  split at hp
  · left
    refine ⟨List.eq_nil_of_length_eq_zero (by omega), by omega⟩
  · split at hp
    · right
      match ks, hp with
      | [a, b], _ => exact ⟨a, b, rfl, by omega⟩
      | [], h => simp at h
      | [a], h => simp at h
      | a :: b :: c :: l, h => simp at h; omega
    · omega
set_option maxRecDepth 10000 in
theorem Ground_call (a : Ty) (h : tcheck a = 0) (hk : a ≠ .node 0 []) : ACall Try.prog 188 [a.val] [] (fun o σ => o = .ret (.tup [(groundF a).val, .c (.d (.bool true))]) ∧ σ = []) := by
  have c1 := check_call a
  rw [h] at c1
  have hr := tcheck_right h
  obtain ⟨k, ks⟩ := a
  have hk0 : k ≠ 0 := fun e => by
    subst e
    exact hk (by rw [right_zero hr])
  have hb : (k == 0) = false := by simpa using hk0
  rcases parts_two hr hk0 with ⟨rfl, rfl | rfl⟩ | ⟨a, b, rfl, rfl | rfl | rfl⟩
  all_goals
    clear h hk hr hk0 hb
    refine ACall.body tab_ok (ρ := 0) (N := 20) Try.func188 rfl rfl rfl rfl rfl ?_
    repeat' first
      | refine AW.seq ?_
      | refine AW.block ?_
      | (refine AW.region tab_ok ?_; conv => whnf)
      | (refine AW.draw (id := 3) tab_ok mixed [0, 1, 2, 3, 4, 5, 6, 7, 8] (by kernel_rfl) ?_; conv => whnf)
      | (refine AW.cond ?_; conv => whnf)
      | (refine AW.skip ?_; conv => whnf)
      | (refine AW.ret ?_; conv => whnf)
      | (refine AW.exit ?_; conv => whnf)
      | (refine (c1).mono ?_; rintro _ _ ⟨rfl, rfl⟩; conv => whnf)
      | (refine (parts_call _).mono ?_; rintro _ _ ⟨rfl, rfl⟩; conv => whnf)
      | (refine And.intro (@rfl Val _) ?_; conv => whnf)
      | (refine And.intro (by decide) ?_; conv => whnf)
      | (refine cs (fun _ => ?_) (fun _ => ?_) <;> conv => whnf)
    exact ⟨rfl, rfl⟩
set_option maxRecDepth 10000 in
theorem ground_call (a b : Ty) (h : tcheck a = 0) (hk : a ≠ .node 0 []) : ACall Try.prog 178 [pairV a b] [] (fun o σ => o = .ret (pairV a (groundF a)) ∧ σ = []) := by
  have c1 := Ground_call a h hk
  obtain ⟨k, ks⟩ := a
  obtain ⟨k', ks'⟩ := b
  refine ACall.body tab_ok (ρ := 0) (N := 15) Try.func178 rfl rfl rfl rfl rfl ?_
  repeat' first
    | refine AW.seq ?_
    | refine AW.block ?_
    | (refine AW.region tab_ok ?_; conv => whnf)
    | (refine AW.cond ?_; conv => whnf)
    | (refine AW.skip ?_; conv => whnf)
    | (refine AW.ret ?_; conv => whnf)
    | (refine AW.exit ?_; conv => whnf)
    | (refine (c1).mono ?_; rintro _ _ ⟨rfl, rfl⟩; conv => whnf)
    | (refine And.intro (@rfl Val _) ?_; conv => whnf)
    | (refine And.intro (by decide) ?_; conv => whnf)
    | (refine cs (fun _ => ?_) (fun _ => ?_) <;> conv => whnf)
  exact ⟨rfl, rfl⟩
end Go.Proofs.Ytoglfnjankinnaa.E
