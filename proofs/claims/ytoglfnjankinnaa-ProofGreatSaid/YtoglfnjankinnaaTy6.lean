/- Walks: types.equal, Same; the law OrderGoes. No conditions. -/
import Derived.Test.YtoglfnjankinnaaTy5
set_option linter.unusedVariables false
set_option linter.unusedSimpArgs false
namespace Go.Proofs.Ytoglfnjankinnaa.E
open Go

mutual
def equalF : Ty → Ty → Bool
  | .node k ks, .node k' ks' => k == k' && equalL ks ks'
def equalL : List Ty → List Ty → Bool
  | [], _ => true
  | x :: xs, y :: ys => equalF x y && equalL xs ys
  | _ :: _, [] => false
end
theorem equalL_all : ∀ (ks ks' : List Ty), ks.length = ks'.length → (equalL ks ks' = true ↔ ∀ (j : Nat) x y, ks[j]? = some x → ks'[j]? = some y → equalF x y = true)
  | [], [], _ => by simp [equalL]
  | x :: xs, y :: ys, h => by
    simp only [equalL, Bool.and_eq_true, equalL_all xs ys (by simpa using h)]
    constructor
    · rintro ⟨h1, h2⟩ j a b ha hb
      cases j with
      | zero => simp at ha hb; subst ha; subst hb; exact h1
      | succ j => exact h2 j a b (by simpa using ha) (by simpa using hb)
    · intro h
      exact ⟨h 0 x y rfl rfl, fun j a b ha hb => h (j + 1) a b (by simpa using ha) (by simpa using hb)⟩
structure EqualI (ks ks' : List Ty) where
  i : Nat
  hi : i ≤ ks.length
  h : ∀ (j : Nat), j < i → ∀ x y, ks[j]? = some x → ks'[j]? = some y → equalF x y = true

set_option maxRecDepth 10000 in
theorem equal_call (a : Ty) : ∀ b, tright a = true → tright b = true → ACall Try.prog 47 [a.val, b.val] [] (fun o σ => o = .ret (.c (.d (.bool (equalF a b)))) ∧ σ = []) := by
  induction a using Ty.ind with
  | _ k ks ih =>
  rintro ⟨k', ks'⟩ ha hb
  refine ACall.body tab_ok (ρ := 0) (N := 30) Try.func47 rfl rfl rfl rfl rfl ?_
  repeat' first
    | refine AW.seq ?_
    | refine AW.block ?_
    | (refine AW.region tab_ok ?_; conv => whnf)
    | (refine AW.draw (id := 6) tab_ok mixed [0, 1, 2, 3, 4, 5, 6, 7, 8, 9, 10, 11] (by kernel_rfl) ?_; conv => whnf)
    | (refine AW.cond ?_; conv => whnf)
    | (refine AW.skip ?_; conv => whnf)
    | (refine AW.ret ?_; conv => whnf)
    | (refine AW.exit ?_; conv => whnf)
    | (refine And.intro (@rfl Val _) ?_; conv => whnf)
    | (refine And.intro (by decide) ?_; conv => whnf)
    | (refine cs (fun _ => ?_) (fun _ => ?_) <;> conv => whnf)
  · rename_i h
    refine ⟨?_, rfl⟩
    simp at h
    simp [oneOf, equalF, h]
  · rename_i h
    have e : k = k' := by simpa using h
    subst e
    have hkk : ks.length = ks'.length := by
      have := tright_len ha
      have := tright_len hb
      omega
    have hle := parts_le k
    have hl1 := tright_len ha
    refine AW.loop (ι := EqualI ks ks') (fun x => ⟨30, [(14, .c (.d (.int .i64 x.i))), (13, .c (.d (.int .i64 (Ty.rows ks).length))), (2, .c (.ptr 0 0)), (3, .c (.ptr 1 0))], [.var [.d (.int .i8 k), .d (.sl 0 2 (Ty.rows ks))], .var [.d (.int .i8 k), .d (.sl 0 2 (Ty.rows ks'))]], []⟩)
      (fun x => ks.length - x.i) ⟨0, Nat.zero_le _, fun j h => by omega⟩ 2 (fun _ => rfl) (Nat.le_of_ble_eq_true rfl) ⟨⟨rfl, rfl, rfl, rfl, trivial⟩, rfl, rfl, ⟨[], rfl⟩, rfl⟩ (fun x => ?_)
    obtain ⟨i, hi, hj⟩ := x
    repeat' first
      | refine AW.seq ?_
      | refine AW.block ?_
      | (refine AW.region tab_ok ?_; conv => whnf)
      | (refine AW.draw (id := 6) tab_ok mixed [0, 1, 2, 3, 4, 5, 6, 7, 8, 9, 10, 11] (by kernel_rfl) ?_; conv => whnf)
      | (refine AW.cond ?_; conv => whnf)
      | (refine AW.skip ?_; conv => whnf)
      | (refine AW.ret ?_; conv => whnf)
      | (refine AW.exit ?_; conv => whnf)
      | (refine And.intro (@rfl Val _) ?_; conv => whnf)
      | (refine And.intro (by decide) ?_; conv => whnf)
      | (refine cs (fun _ => ?_) (fun _ => ?_) <;> conv => whnf)
    · rename_i h1
      simp only [rows_length] at h1 ⊢
      have := of_decide_eq_true h1
      refine ⟨by omega, fun row hrow => ?_⟩
      obtain ⟨⟨kx, kxs⟩, ht, rfl⟩ := rows_get ks i row (by simpa using hrow)
      have hlt : i < ks.length := (List.getElem?_eq_some_iff.1 ht).1
      have hm := List.mem_of_getElem? ht
      conv => whnf
      repeat' first
        | refine AW.seq ?_
        | refine AW.block ?_
        | (refine AW.region tab_ok ?_; conv => whnf)
        | (refine AW.draw (id := 6) tab_ok mixed [0, 1, 2, 3, 4, 5, 6, 7, 8, 9, 10, 11] (by kernel_rfl) ?_; conv => whnf)
        | (refine AW.cond ?_; conv => whnf)
        | (refine AW.skip ?_; conv => whnf)
        | (refine AW.ret ?_; conv => whnf)
        | (refine AW.exit ?_; conv => whnf)
        | (refine And.intro (@rfl Val _) ?_; conv => whnf)
        | (refine And.intro (by decide) ?_; conv => whnf)
        | (refine cs (fun _ => ?_) (fun _ => ?_) <;> conv => whnf)
      simp only [rows_length]
      refine ⟨by omega, fun row hrow => ?_⟩
      obtain ⟨⟨ky, kys⟩, hu, rfl⟩ := rows_get ks' i row (by simpa using hrow)
      have hm' := List.mem_of_getElem? hu
      conv => whnf
      repeat' first
        | refine AW.seq ?_
        | refine AW.block ?_
        | (refine AW.region tab_ok ?_; conv => whnf)
        | (refine AW.draw (id := 6) tab_ok mixed [0, 1, 2, 3, 4, 5, 6, 7, 8, 9, 10, 11] (by kernel_rfl) ?_; conv => whnf)
        | (refine AW.cond ?_; conv => whnf)
        | (refine AW.skip ?_; conv => whnf)
        | (refine AW.ret ?_; conv => whnf)
        | (refine AW.exit ?_; conv => whnf)
        | (refine (ih _ hm _ (tright_kid ha hm) (tright_kid hb hm')).mono ?_; rintro _ _ ⟨rfl, rfl⟩; conv => whnf)
        | (refine And.intro (@rfl Val _) ?_; conv => whnf)
        | (refine And.intro (by decide) ?_; conv => whnf)
        | (refine cs (fun _ => ?_) (fun _ => ?_) <;> conv => whnf)
      · rename_i h2
        refine ⟨?_, rfl⟩
        have h2 : equalF (Ty.node kx kxs) (Ty.node ky kys) = false := by simpa using h2
        have : equalL ks ks' = false := by
          cases hc : equalL ks ks' with
          | false => rfl
          | true => rw [(equalL_all ks ks' hkk).1 hc i _ _ ht hu] at h2; cases h2
        simp [oneOf, equalF, this]
      · rename_i h2
        have h2 : equalF (Ty.node kx kxs) (Ty.node ky kys) = true := by simpa using h2
        rw [wrap64 (x := (i : Int) + 1) (by omega) (by omega)]
        refine ⟨⟨i + 1, hlt, fun j h x y hx hy => ?_⟩, ⟨⟨rfl, rfl, rfl, rfl, trivial⟩, rfl, rfl, ⟨[], rfl⟩, rfl⟩, show ks.length - (i + 1) < ks.length - i by omega⟩
        by_cases e : j = i
        · subst e; rw [ht] at hx; rw [hu] at hy; cases hx; cases hy; exact h2
        · exact hj j (by omega) x y hx hy
    · rename_i h1
      simp only [rows_length] at h1
      have := of_decide_eq_false h1
      obtain rfl : i = ks.length := by omega
      refine ⟨?_, rfl⟩
      have : equalL ks ks' = true := (equalL_all ks ks' hkk).2 fun j x y hx hy => hj j (List.getElem?_eq_some_iff.1 hx).1 x y hx hy
      simp [oneOf, equalF, this]
def sameS (a b : Ty) : Bool := decide (tcheck a = 0) && decide (tcheck b = 0) && equalF a b
set_option maxRecDepth 10000 in
theorem Same_call (a b : Ty) : ACall Try.prog 15 [a.val, b.val] [] (fun o σ => o = .ret (.c (.d (.bool (sameS a b)))) ∧ σ = []) := by
  obtain ⟨k, ks⟩ := a
  obtain ⟨k', ks'⟩ := b
  refine ACall.body tab_ok (ρ := 0) (N := 18) Try.func15 rfl rfl rfl rfl rfl ?_
  repeat' first
    | refine AW.seq ?_
    | refine AW.block ?_
    | (refine AW.region tab_ok ?_; conv => whnf)
    | (refine AW.cond ?_; conv => whnf)
    | (refine AW.skip ?_; conv => whnf)
    | (refine AW.ret ?_; conv => whnf)
    | (refine AW.exit ?_; conv => whnf)
    | (refine (check_call (.node k ks)).mono ?_; rintro _ _ ⟨rfl, rfl⟩; conv => whnf)
    | (refine (check_call (.node k' ks')).mono ?_; rintro _ _ ⟨rfl, rfl⟩; conv => whnf)
    | (refine And.intro (@rfl Val _) ?_; conv => whnf)
    | (refine And.intro (by decide) ?_; conv => whnf)
    | (refine cs (fun _ => ?_) (fun _ => ?_) <;> conv => whnf)
  · rename_i h1 h2
    have h1 : tcheck (.node k ks) = 0 := by simpa using h1
    have h2 : tcheck (.node k' ks') = 0 := by simpa using h2
    refine (equal_call (.node k ks) (.node k' ks') (tcheck_right h1) (tcheck_right h2)).mono ?_
    rintro _ _ ⟨rfl, rfl⟩
    conv => whnf
    repeat' first
      | refine AW.seq ?_
      | refine AW.block ?_
      | (refine AW.region tab_ok ?_; conv => whnf)
      | (refine AW.cond ?_; conv => whnf)
      | (refine AW.skip ?_; conv => whnf)
      | (refine AW.ret ?_; conv => whnf)
      | (refine AW.exit ?_; conv => whnf)
      | (refine And.intro (@rfl Val _) ?_; conv => whnf)
      | (refine And.intro (by decide) ?_; conv => whnf)
      | (refine cs (fun _ => ?_) (fun _ => ?_) <;> conv => whnf)
    refine ⟨?_, rfl⟩
    simp [oneOf, sameS, h1, h2]
  · rename_i h1 h2
    refine ⟨?_, rfl⟩
    simp at h1 h2
    simp [oneOf, sameS, h1, h2]
  · rename_i h1
    refine ⟨?_, rfl⟩
    simp at h1
    simp [oneOf, sameS, h1]

/-! ### An order -/
theorem get_both {ks ks' : List Ty} (h : ks.length = ks'.length) {i : Nat} {x : Ty} (hx : ks[i]? = some x) : ∃ y, ks'[i]? = some y :=
  ⟨_, List.getElem?_eq_getElem (by have := (List.getElem?_eq_some_iff.1 hx).1; omega)⟩
theorem less_refl (a : Ty) : lessF a a = true := by
  induction a using Ty.ind with
  | _ k ks ih =>
  simp only [lessF, Bool.or_eq_true, Bool.and_eq_true]
  right
  refine ⟨by simp, (lessL_all ks ks rfl).2 fun j x y hx hy => ?_⟩
  rw [hx] at hy
  cases hy
  exact ih x (List.mem_of_getElem? hx)
theorem right_eq_len {k : Int} {ks ks' : List Ty} (ha : tright (.node k ks) = true) (hb : tright (.node k ks') = true) : ks.length = ks'.length := by
  have := tright_len ha
  have := tright_len hb
  omega
theorem right_zero {ks : List Ty} (h : tright (.node 0 ks) = true) : ks = [] := by
  have := tright_len h
  simp [parts] at this
  exact List.eq_nil_of_length_eq_zero (by omega)
theorem less_trans (a : Ty) : ∀ b c, tright a = true → tright b = true → tright c = true → lessF a b = true → lessF b c = true → lessF a c = true := by
  induction a using Ty.ind with
  | _ k ks ih =>
  rintro ⟨k', ks'⟩ ⟨k'', ks''⟩ ha hb hc h1 h2
  simp only [lessF, Bool.or_eq_true, Bool.and_eq_true, beq_iff_eq] at h1 h2 ⊢
  rcases h1 with h1 | ⟨rfl, h1⟩
  · exact .inl h1
  · rcases h2 with h2 | ⟨rfl, h2⟩
    · exact .inl h2
    · right
      have l1 := right_eq_len ha hb
      have l2 := right_eq_len hb hc
      refine ⟨rfl, (lessL_all ks ks'' (l1.trans l2)).2 fun j x z hx hz => ?_⟩
      obtain ⟨y, hy⟩ := get_both l1 hx
      exact ih x (List.mem_of_getElem? hx) y z (tright_kid ha (List.mem_of_getElem? hx)) (tright_kid hb (List.mem_of_getElem? hy)) (tright_kid hc (List.mem_of_getElem? hz))
        ((lessL_all ks ks' l1).1 h1 j x y hx hy) ((lessL_all ks' ks'' l2).1 h2 j y z hy hz)
theorem less_anti (a : Ty) : ∀ b, tright a = true → tright b = true → lessF a b = true → lessF b a = equalF a b := by
  induction a using Ty.ind with
  | _ k ks ih =>
  rintro ⟨k', ks'⟩ ha hb h1
  simp only [lessF, Bool.or_eq_true, Bool.and_eq_true, beq_iff_eq] at h1
  simp only [lessF, equalF]
  by_cases e : k = k'
  · subst e
    have l1 := right_eq_len ha hb
    by_cases k0 : k = 0
    · subst k0
      obtain rfl := right_zero ha
      obtain rfl := right_zero hb
      simp [equalL]
    · have h1 : lessL ks ks' = true := by
        rcases h1 with h1 | h1
        · exact absurd h1 k0
        · exact h1.2
      have e0 : (k == 0) = false := by simpa using k0
      simp only [e0, beq_self_eq_true, Bool.false_or, Bool.true_and]
      rw [Bool.eq_iff_iff, lessL_all ks' ks l1.symm, equalL_all ks ks' l1]
      constructor
      · intro h j x y hx hy
        rw [← ih x (List.mem_of_getElem? hx) y (tright_kid ha (List.mem_of_getElem? hx)) (tright_kid hb (List.mem_of_getElem? hy)) ((lessL_all ks ks' l1).1 h1 j x y hx hy)]
        exact h j y x hy hx
      · intro h j y x hy hx
        rw [ih x (List.mem_of_getElem? hx) y (tright_kid ha (List.mem_of_getElem? hx)) (tright_kid hb (List.mem_of_getElem? hy)) ((lessL_all ks ks' l1).1 h1 j x y hx hy)]
        exact h j x y hx hy
  · have k0 : k = 0 := by
      rcases h1 with h1 | h1
      · exact h1
      · exact absurd h1.1 e
    subst k0
    have e1 : (k' == 0) = false := by simpa using fun h => e h.symm
    have e2 : ((0 : Int) == k') = false := by simpa using e
    have e3 : (k' == (0 : Int)) = false := e1
    simp [e1, e2]
theorem lessS_self (a : Ty) : lessS a a = decide (tcheck a = 0) := by simp [lessS, less_refl]
theorem lessS_zero (a : Ty) : lessS (.node 0 []) a = decide (tcheck a = 0) := by
  have h : tcheck (.node 0 []) = 0 := by simp [tcheck, nodes, nodesL, deepF, deepL, tright, trights, parts]
  have g : lessF (.node 0 []) a = true := by
    obtain ⟨k, ks⟩ := a
    simp [lessF]
  simp [lessS, h, g]
theorem lessS_anti {a b : Ty} (h : lessS a b = true) : lessS b a = sameS a b := by
  simp only [lessS, Bool.and_eq_true, decide_eq_true_eq] at h
  obtain ⟨⟨h1, h2⟩, h3⟩ := h
  simp only [lessS, sameS, h1, h2]
  simpa using less_anti a b (tcheck_right h1) (tcheck_right h2) h3
theorem lessS_trans {a b c : Ty} (h : lessS a b = true) (g : lessS b c = true) : lessS a c = true := by
  simp only [lessS, Bool.and_eq_true, decide_eq_true_eq] at h g ⊢
  obtain ⟨⟨h1, h2⟩, h3⟩ := h
  obtain ⟨⟨_, h4⟩, h5⟩ := g
  exact ⟨⟨h1, h4⟩, less_trans a b c (tcheck_right h1) (tcheck_right h2) (tcheck_right h4) h3 h5⟩
end Go.Proofs.Ytoglfnjankinnaa.E
