/- Texts, merged: Ty6, Ty7, Cs3, Names. No conditions. -/
import Derived.Test.YtlboogackecjlaaGenX2
/- Walks: types.equal, Same; the law OrderGoes. No conditions. -/
set_option linter.unusedVariables false
set_option linter.unusedSimpArgs false
namespace Go.Proofs.Ytlboogackecjlaa.E
open Go

mutual
def equalF : Ty → Ty → Bool
  | .node k ks, .node k' ks' => k == k' && equalL ks ks'
def equalL : List Ty → List Ty → Bool
  | [], _ => true
  | x :: xs, y :: ys => equalF x y && equalL xs ys
  | _ :: _, [] => false
end
theorem equalL_all : ∀ (ks ks' : List Ty), ks.length = ks'.length → (equalL ks ks' = true ↔ ∀ (j : Nat) x y, ks[j]? = some x → ks'[j]? = some y → equalF x y = true)
  | [], [], _ => by simp [equalL]
  | x :: xs, y :: ys, h => by
    simp only [equalL, Bool.and_eq_true, equalL_all xs ys (by simpa using h)]
    constructor
    · rintro ⟨h1, h2⟩ j a b ha hb
      cases j with
      | zero => simp at ha hb; subst ha; subst hb; exact h1
      | succ j => exact h2 j a b (by simpa using ha) (by simpa using hb)
    · intro h
      exact ⟨h 0 x y rfl rfl, fun j a b ha hb => h (j + 1) a b (by simpa using ha) (by simpa using hb)⟩
structure EqualI (ks ks' : List Ty) where
  i : Nat
  hi : i ≤ ks.length
  h : ∀ (j : Nat), j < i → ∀ x y, ks[j]? = some x → ks'[j]? = some y → equalF x y = true

set_option maxRecDepth 10000 in
theorem equal_call (a : Ty) : ∀ b, tright a = true → tright b = true → ACall Try.prog 83 [a.val, b.val] [] (fun o σ => o = .ret (.c (.d (.bool (equalF a b)))) ∧ σ = []) := by
  induction a using Ty.ind with
  | _ k ks ih =>
  rintro ⟨k', ks'⟩ ha hb
  refine ACall.body tab_ok (ρ := 0) (N := 30) Try.func83 rfl rfl rfl rfl rfl ?_
  repeat' first | refine AW.seq ?_ | refine AW.block ?_ | (refine (id : AW _ _ _ (.region 6 _ true) _ _ → _) ?_; refine AW.draw (id := 6) tab_ok mixed [0, 1, 2, 3, 4, 5, 6, 7, 8, 9, 10, 11] (by kernel_rfl) ?_; conv => whnf) | ((first | refine AW.region tab_ok ?_ | refine AW.cond ?_ | refine AW.skip ?_ | refine AW.ret ?_ | refine AW.exit ?_); conv => whnf) | ((first | refine And.intro (@rfl Val _) ?_ | refine And.intro (by decide) ?_ | refine cs (fun _ => ?_) (fun _ => ?_)) <;> conv => whnf)
  · rename_i h
    refine ⟨?_, rfl⟩
    simp at h
    simp [oneOf, equalF, h]
  · rename_i h
    have e : k = k' := by simpa using h
    subst e
    have hkk : ks.length = ks'.length := by
      have := tright_len ha
      have := tright_len hb
      omega
    have hle := parts_le k
    have hl1 := tright_len ha
    refine AW.loop (ι := EqualI ks ks') (fun x => ⟨30, [(14, .c (.d (.int .i64 x.i))), (13, .c (.d (.int .i64 (Ty.rows ks).length))), (2, .c (.ptr 0 0)), (3, .c (.ptr 1 0))], [.var [.d (.int .i8 k), .d (.sl 0 2 (Ty.rows ks))], .var [.d (.int .i8 k), .d (.sl 0 2 (Ty.rows ks'))]], []⟩)
      (fun x => ks.length - x.i) ⟨0, Nat.zero_le _, fun j h => by omega⟩ 2 (fun _ => rfl) (Nat.le_of_ble_eq_true rfl) ⟨⟨rfl, rfl, rfl, rfl, trivial⟩, rfl, rfl, ⟨[], rfl⟩, rfl⟩ (fun x => ?_)
    obtain ⟨i, hi, hj⟩ := x
    repeat' first | refine AW.seq ?_ | refine AW.block ?_ | (refine (id : AW _ _ _ (.region 6 _ true) _ _ → _) ?_; refine AW.draw (id := 6) tab_ok mixed [0, 1, 2, 3, 4, 5, 6, 7, 8, 9, 10, 11] (by kernel_rfl) ?_; conv => whnf) | ((first | refine AW.region tab_ok ?_ | refine AW.cond ?_ | refine AW.skip ?_ | refine AW.ret ?_ | refine AW.exit ?_); conv => whnf) | ((first | refine And.intro (@rfl Val _) ?_ | refine And.intro (by decide) ?_ | refine cs (fun _ => ?_) (fun _ => ?_)) <;> conv => whnf)
    · rename_i h1
      simp only [rows_length] at h1 ⊢
      have := of_decide_eq_true h1
      refine ⟨by omega, fun row hrow => ?_⟩
      obtain ⟨⟨kx, kxs⟩, ht, rfl⟩ := rows_get ks i row (by simpa using hrow)
      have hlt : i < ks.length := (List.getElem?_eq_some_iff.1 ht).1
      have hm := List.mem_of_getElem? ht
      conv => whnf
      repeat' first | refine AW.seq ?_ | refine AW.block ?_ | (refine (id : AW _ _ _ (.region 6 _ true) _ _ → _) ?_; refine AW.draw (id := 6) tab_ok mixed [0, 1, 2, 3, 4, 5, 6, 7, 8, 9, 10, 11] (by kernel_rfl) ?_; conv => whnf) | ((first | refine AW.region tab_ok ?_ | refine AW.cond ?_ | refine AW.skip ?_ | refine AW.ret ?_ | refine AW.exit ?_); conv => whnf) | ((first | refine And.intro (@rfl Val _) ?_ | refine And.intro (by decide) ?_ | refine cs (fun _ => ?_) (fun _ => ?_)) <;> conv => whnf)
      simp only [rows_length]
      refine ⟨by omega, fun row hrow => ?_⟩
      obtain ⟨⟨ky, kys⟩, hu, rfl⟩ := rows_get ks' i row (by simpa using hrow)
      have hm' := List.mem_of_getElem? hu
      conv => whnf
      repeat' first | refine AW.seq ?_ | refine AW.block ?_ | (refine (id : AW _ _ _ (.region 6 _ true) _ _ → _) ?_; refine AW.draw (id := 6) tab_ok mixed [0, 1, 2, 3, 4, 5, 6, 7, 8, 9, 10, 11] (by kernel_rfl) ?_; conv => whnf) | ((first | refine AW.region tab_ok ?_ | refine AW.cond ?_ | refine AW.skip ?_ | refine AW.ret ?_ | refine AW.exit ?_); conv => whnf) | (refine (ih _ hm _ (tright_kid ha hm) (tright_kid hb hm')).mono ?_; rintro _ _ ⟨rfl, rfl⟩; conv => whnf) | ((first | refine And.intro (@rfl Val _) ?_ | refine And.intro (by decide) ?_ | refine cs (fun _ => ?_) (fun _ => ?_)) <;> conv => whnf)
      · rename_i h2
        refine ⟨?_, rfl⟩
        have h2 : equalF (Ty.node kx kxs) (Ty.node ky kys) = false := by simpa using h2
        have : equalL ks ks' = false := by
          cases hc : equalL ks ks' with
          | false => rfl
          | true => rw [(equalL_all ks ks' hkk).1 hc i _ _ ht hu] at h2; cases h2
        simp [oneOf, equalF, this]
      · rename_i h2
        have h2 : equalF (Ty.node kx kxs) (Ty.node ky kys) = true := by simpa using h2
        rw [wrap64 (x := (i : Int) + 1) (by omega) (by omega)]
        refine ⟨⟨i + 1, hlt, fun j h x y hx hy => ?_⟩, ⟨⟨rfl, rfl, rfl, rfl, trivial⟩, rfl, rfl, ⟨[], rfl⟩, rfl⟩, show ks.length - (i + 1) < ks.length - i by omega⟩
        by_cases e : j = i
        · subst e; rw [ht] at hx; rw [hu] at hy; cases hx; cases hy; exact h2
        · exact hj j (by omega) x y hx hy
    · rename_i h1
      simp only [rows_length] at h1
      have := of_decide_eq_false h1
      obtain rfl : i = ks.length := by omega
      refine ⟨?_, rfl⟩
      have : equalL ks ks' = true := (equalL_all ks ks' hkk).2 fun j x y hx hy => hj j (List.getElem?_eq_some_iff.1 hx).1 x y hx hy
      simp [oneOf, equalF, this]
def sameS (a b : Ty) : Bool := decide (tcheck a = 0) && decide (tcheck b = 0) && equalF a b
set_option maxRecDepth 10000 in
theorem Same_call (a b : Ty) : ACall Try.prog 55 [a.val, b.val] [] (fun o σ => o = .ret (.c (.d (.bool (sameS a b)))) ∧ σ = []) := by
  obtain ⟨k, ks⟩ := a
  obtain ⟨k', ks'⟩ := b
  refine ACall.body tab_ok (ρ := 0) (N := 18) Try.func55 rfl rfl rfl rfl rfl ?_
  repeat' first | refine AW.seq ?_ | refine AW.block ?_ | ((first | refine AW.region tab_ok ?_ | refine AW.cond ?_ | refine AW.skip ?_ | refine AW.ret ?_ | refine AW.exit ?_); conv => whnf) | ((first | refine (check_call (.node k ks)).mono ?_ | refine (check_call (.node k' ks')).mono ?_); rintro _ _ ⟨rfl, rfl⟩; conv => whnf) | ((first | refine And.intro (@rfl Val _) ?_ | refine And.intro (by decide) ?_ | refine cs (fun _ => ?_) (fun _ => ?_)) <;> conv => whnf)
  · rename_i h1 h2
    have h1 : tcheck (.node k ks) = 0 := by simpa using h1
    have h2 : tcheck (.node k' ks') = 0 := by simpa using h2
    refine (equal_call (.node k ks) (.node k' ks') (tcheck_right h1) (tcheck_right h2)).mono ?_
    rintro _ _ ⟨rfl, rfl⟩
    conv => whnf
    repeat' first | refine AW.seq ?_ | refine AW.block ?_ | ((first | refine AW.region tab_ok ?_ | refine AW.cond ?_ | refine AW.skip ?_ | refine AW.ret ?_ | refine AW.exit ?_); conv => whnf) | ((first | refine And.intro (@rfl Val _) ?_ | refine And.intro (by decide) ?_ | refine cs (fun _ => ?_) (fun _ => ?_)) <;> conv => whnf)
    refine ⟨?_, rfl⟩
    simp [oneOf, sameS, h1, h2]
  · rename_i h1 h2
    refine ⟨?_, rfl⟩
    simp at h1 h2
    simp [oneOf, sameS, h1, h2]
  · rename_i h1
    refine ⟨?_, rfl⟩
    simp at h1
    simp [oneOf, sameS, h1]

/-! ### An order -/
theorem right_eq_len {k : Int} {ks ks' : List Ty} (ha : tright (.node k ks) = true) (hb : tright (.node k ks') = true) : ks.length = ks'.length := by
  have := tright_len ha
  have := tright_len hb
  omega
theorem right_zero {ks : List Ty} (h : tright (.node 0 ks) = true) : ks = [] := by
  have := tright_len h
  simp [parts] at this
  exact List.eq_nil_of_length_eq_zero (by omega)
end Go.Proofs.Ytlboogackecjlaa.E

/- Walks: agree of both. No conditions. -/
set_option linter.unusedVariables false
set_option linter.unusedSimpArgs false
namespace Go.Proofs.Ytlboogackecjlaa.E
open Go

end Go.Proofs.Ytlboogackecjlaa.E

/- Walks: below.Pos, below.Neg. No conditions. -/
set_option linter.unusedVariables false
set_option linter.unusedSimpArgs false
namespace Go.Proofs.Ytlboogackecjlaa.E
open Go

theorem deepF_kid {k : Int} {ks : List Ty} {t : Ty} (ht : t ∈ ks) (n : Nat) (hn : 1 < n) : deepF t (n - 1) + 1 ≤ deepF (.node k ks) n := by
  have : ∀ (l : List Ty) m, t ∈ l → deepF t m ≤ deepL l m := fun l m => by
    induction l with
    | nil => intro h; cases h
    | cons x l ih =>
      intro h
      simp only [deepL]
      rcases List.mem_cons.1 h with rfl | h
      · omega
      · have := ih h; omega
  have := this ks (n - 1) ht
  simp only [deepF]
  rw [if_neg (by omega)]
  omega
theorem deepF_step (t : Ty) : ∀ m, deepF t (m + 1) ≤ deepF t m + 1 ∧ (deepF t m < m → deepF t (m + 1) = deepF t m) := by
  induction t using Ty.ind with
  | _ k ks ih =>
  intro m
  have hl : ∀ (l : List Ty) (m : Nat), (∀ t ∈ l, ∀ m, deepF t (m + 1) ≤ deepF t m + 1 ∧ (deepF t m < m → deepF t (m + 1) = deepF t m)) → deepL l (m + 1) ≤ deepL l m + 1 ∧ (deepL l m < m → deepL l (m + 1) = deepL l m) := fun l m => by
    induction l with
    | nil => intro _; simp [deepL]
    | cons x l ihl =>
      intro h
      have h1 := h x (by simp) m
      have h2 := ihl fun t ht => h t (by simp [ht])
      simp only [deepL]
      omega
  have := hl ks (m - 1) ih
  simp only [deepF]
  by_cases h1 : m ≤ 1
  · rw [if_pos h1]
    by_cases h0 : m = 0
    · subst h0; simp
    · obtain rfl : m = 1 := by omega
      rw [if_neg (by omega)]
      have h3 : deepL ks (1 + 1 - 1) ≤ 1 := deepL_le ks 1
      refine ⟨by omega, fun h => by omega⟩
  · rw [if_neg h1, if_neg (by omega)]
    rw [show m + 1 - 1 = m - 1 + 1 by omega]
    omega
theorem tcheck_kid {k : Int} {ks : List Ty} (h : tcheck (.node k ks) = 0) {t : Ty} (ht : t ∈ ks) : tcheck t = 0 := by
  have hr := tcheck_right h
  have hn := nodes_mem ks t ht
  have hd : deepF t 200 + 1 ≤ deepF (.node k ks) 201 := deepF_kid (k := k) ht 201 (by omega)
  have hs : deepF t 201 ≤ deepF t 200 + 1 ∧ (deepF t 200 < 200 → deepF t 201 = deepF t 200) := deepF_step t 200
  unfold tcheck at h ⊢
  simp only [nodes] at h
  split at h
  · omega
  · split at h
    · omega
    · have e : deepF t 200 < 200 := by omega
      rw [if_neg (by omega), if_neg (by have := hs.2 e; omega), if_pos (tright_kid hr ht)]

/-! ### The relations -/
/-- Positively below (false), negatively (true). -/
def holdF : Nat → Bool → Ty → Ty → Bool
  | 0, _, _, _ => false
  | n + 1, w, .node k ks, .node k' ks' =>
    if k = 0 then (if k' = 0 then true else w)
    else if k' = 0 then (if w then (if ks.isEmpty then true
        else if k = 3 then holdF n false (.node 0 []) (ks.getD 0 (.node 0 [])) && holdF n true (ks.getD 1 (.node 0 [])) (.node 0 [])
        else holdF n true (ks.getD 0 (.node 0 [])) (.node 0 []) && holdF n true (ks.getD 1 (.node 0 [])) (.node 0 [])) else true)
    else if k ≠ k' then false
    else if ks.isEmpty then true
    else if k = 3 then holdF n (!w) (ks'.getD 0 (.node 0 [])) (ks.getD 0 (.node 0 [])) && holdF n w (ks.getD 1 (.node 0 [])) (ks'.getD 1 (.node 0 []))
    else holdF n w (ks.getD 0 (.node 0 [])) (ks'.getD 0 (.node 0 [])) && holdF n w (ks.getD 1 (.node 0 [])) (ks'.getD 1 (.node 0 []))
def wayV (w : Bool) : Val := .agg [.fn (if w then 99 else 98) [] [], .d (.bool w), .fn (if w then 74 else 75) [] []]
def pairV (a b : Ty) : Val := .agg ((a.cells ++ b.cells).map .d)
set_option maxRecDepth 10000 in
theorem pos_call : ACall Try.prog 74 [] [] (fun o σ => o = .ret (wayV false) ∧ σ = []) := by
  refine ACall.body tab_ok (ρ := 0) (N := 2) Try.func74 rfl rfl rfl rfl rfl ?_
  repeat' first | refine AW.seq ?_ | refine AW.block ?_ | ((first | refine AW.region tab_ok ?_ | refine AW.cond ?_ | refine AW.skip ?_ | refine AW.ret ?_ | refine AW.exit ?_); conv => whnf) | ((first | refine And.intro (@rfl Val _) ?_ | refine And.intro (by decide) ?_ | refine cs (fun _ => ?_) (fun _ => ?_)) <;> conv => whnf)
  exact ⟨rfl, rfl⟩
set_option maxRecDepth 10000 in
theorem neg_call : ACall Try.prog 75 [] [] (fun o σ => o = .ret (wayV true) ∧ σ = []) := by
  refine ACall.body tab_ok (ρ := 0) (N := 2) Try.func75 rfl rfl rfl rfl rfl ?_
  repeat' first | refine AW.seq ?_ | refine AW.block ?_ | ((first | refine AW.region tab_ok ?_ | refine AW.cond ?_ | refine AW.skip ?_ | refine AW.ret ?_ | refine AW.exit ?_); conv => whnf) | ((first | refine And.intro (@rfl Val _) ?_ | refine And.intro (by decide) ?_ | refine cs (fun _ => ?_) (fun _ => ?_)) <;> conv => whnf)
  exact ⟨rfl, rfl⟩
set_option maxRecDepth 10000 in
theorem pos1_call (a b : Ty) : ACall Try.prog 98 [pairV a b, wayV false] [] (fun o σ => o = .ret (.c (.d (.bool true))) ∧ σ = []) := by
  obtain ⟨k, ks⟩ := a
  obtain ⟨k', ks'⟩ := b
  refine ACall.body tab_ok (ρ := 0) (N := 5) Try.func98 rfl rfl rfl rfl rfl ?_
  repeat' first | refine AW.seq ?_ | refine AW.block ?_ | ((first | refine AW.region tab_ok ?_ | refine AW.cond ?_ | refine AW.skip ?_ | refine AW.ret ?_ | refine AW.exit ?_); conv => whnf) | ((first | refine And.intro (@rfl Val _) ?_ | refine And.intro (by decide) ?_ | refine cs (fun _ => ?_) (fun _ => ?_)) <;> conv => whnf)
  exact ⟨rfl, rfl⟩
/-- The ground of a type. -/
def groundF : Ty → Ty
  | .node k ks => .node k (ks.map fun _ => .node 0 [])
theorem parts_two {k : Int} {ks : List Ty} (h : tright (.node k ks) = true) (hk : k ≠ 0) : (ks = [] ∧ (k = 1 ∨ k = 2)) ∨ ∃ a b, ks = [a, b] ∧ (k = 3 ∨ k = 4 ∨ k = 5) := by
  have hp := tright_len h
  unfold parts at hp
  split at hp
  · left
    refine ⟨List.eq_nil_of_length_eq_zero (by omega), by omega⟩
  · split at hp
    · right
      match ks, hp with
      | [a, b], _ => exact ⟨a, b, rfl, by omega⟩
      | [], h => simp at h
      | [a], h => simp at h
      | a :: b :: c :: l, h => simp at h; omega
    · omega
set_option maxRecDepth 10000 in
theorem Ground_call (a : Ty) (h : tcheck a = 0) (hk : a ≠ .node 0 []) : ACall Try.prog 115 [a.val] [] (fun o σ => o = .ret (.tup [(groundF a).val, .c (.d (.bool true))]) ∧ σ = []) := by
  have c1 := check_call a
  rw [h] at c1
  have hr := tcheck_right h
  obtain ⟨k, ks⟩ := a
  have hk0 : k ≠ 0 := fun e => by
    subst e
    exact hk (by rw [right_zero hr])
  have hb : (k == 0) = false := by simpa using hk0
  rcases parts_two hr hk0 with ⟨rfl, rfl | rfl⟩ | ⟨a, b, rfl, rfl | rfl | rfl⟩
  all_goals
    clear h hk hr hk0 hb
    refine ACall.body tab_ok (ρ := 0) (N := 20) Try.func115 rfl rfl rfl rfl rfl ?_
    repeat' first | refine AW.seq ?_ | refine AW.block ?_ | (refine (id : AW _ _ _ (.region 3 _ true) _ _ → _) ?_; refine AW.draw (id := 3) tab_ok mixed [0, 1, 2, 3, 4, 5, 6, 7, 8] (by kernel_rfl) ?_; conv => whnf) | ((first | refine AW.region tab_ok ?_ | refine AW.cond ?_ | refine AW.skip ?_ | refine AW.ret ?_ | refine AW.exit ?_); conv => whnf) | ((first | refine (c1).mono ?_ | refine (parts_call _).mono ?_); rintro _ _ ⟨rfl, rfl⟩; conv => whnf) | ((first | refine And.intro (@rfl Val _) ?_ | refine And.intro (by decide) ?_ | refine cs (fun _ => ?_) (fun _ => ?_)) <;> conv => whnf)
    exact ⟨rfl, rfl⟩
set_option maxRecDepth 10000 in
theorem ground_call (a b : Ty) (h : tcheck a = 0) (hk : a ≠ .node 0 []) : ACall Try.prog 100 [pairV a b] [] (fun o σ => o = .ret (pairV a (groundF a)) ∧ σ = []) := by
  have c1 := Ground_call a h hk
  obtain ⟨k, ks⟩ := a
  obtain ⟨k', ks'⟩ := b
  refine ACall.body tab_ok (ρ := 0) (N := 15) Try.func100 rfl rfl rfl rfl rfl ?_
  repeat' first | refine AW.seq ?_ | refine AW.block ?_ | ((first | refine AW.region tab_ok ?_ | refine AW.cond ?_ | refine AW.skip ?_ | refine AW.ret ?_ | refine AW.exit ?_); conv => whnf) | (refine (c1).mono ?_; rintro _ _ ⟨rfl, rfl⟩; conv => whnf) | ((first | refine And.intro (@rfl Val _) ?_ | refine And.intro (by decide) ?_ | refine cs (fun _ => ?_) (fun _ => ?_)) <;> conv => whnf)
  exact ⟨rfl, rfl⟩
end Go.Proofs.Ytlboogackecjlaa.E

/- Walks: letters, digits, key words. No conditions. -/
set_option linter.unusedVariables false
set_option linter.unusedSimpArgs false
namespace Go.Proofs.Ytlboogackecjlaa.E
open Go

def letterF (c : Int) : Bool := (decide (65 ≤ c) && decide (c ≤ 90)) || (decide (97 ≤ c) && decide (c ≤ 122)) || decide (c = 95)
def digitF (c : Int) : Bool := decide (48 ≤ c) && decide (c ≤ 57)

theorem outb {x y : Bool} (h : x = y) : Out.ret (oneOf [.c (.d (.bool x))]) = Out.ret (.c (.d (.bool y))) := by rw [h]; rfl

set_option maxRecDepth 10000 in
theorem digit_call (c : Int) : ACall Try.prog 106 [.c (.d (.int .u8 c))] [] (fun o σ => o = .ret (.c (.d (.bool (digitF c)))) ∧ σ = []) := by
  refine ACall.body tab_ok (ρ := 0) (N := 9) Try.func106 rfl rfl rfl rfl rfl ?_
  repeat' first | refine AW.seq ?_ | refine AW.block ?_ | ((first | refine AW.region tab_ok ?_ | refine AW.cond ?_ | refine AW.skip ?_ | refine AW.ret ?_ | refine AW.exit ?_); conv => whnf) | ((first | refine And.intro (@rfl Val _) ?_ | refine And.intro (by decide) ?_ | refine cs (fun _ => ?_) (fun _ => ?_)) <;> conv => whnf)
  all_goals
    refine ⟨outb ?_, rfl⟩
    rw [Bool.eq_iff_iff]
    simp at *
    simp [digitF]
    omega
set_option maxRecDepth 10000 in
theorem rdigit_call (c : Int) : ACall Try.prog 113 [.c (.d (.int .u8 c))] [] (fun o σ => o = .ret (.c (.d (.bool (digitF c)))) ∧ σ = []) := by
  refine ACall.body tab_ok (ρ := 0) (N := 9) Try.func113 rfl rfl rfl rfl rfl ?_
  repeat' first | refine AW.seq ?_ | refine AW.block ?_ | ((first | refine AW.region tab_ok ?_ | refine AW.cond ?_ | refine AW.skip ?_ | refine AW.ret ?_ | refine AW.exit ?_); conv => whnf) | ((first | refine And.intro (@rfl Val _) ?_ | refine And.intro (by decide) ?_ | refine cs (fun _ => ?_) (fun _ => ?_)) <;> conv => whnf)
  all_goals
    refine ⟨outb ?_, rfl⟩
    rw [Bool.eq_iff_iff]
    simp at *
    simp [digitF]
    omega
set_option maxRecDepth 10000 in
theorem letter_call (c : Int) : ACall Try.prog 108 [.c (.d (.int .u8 c))] [] (fun o σ => o = .ret (.c (.d (.bool (letterF c)))) ∧ σ = []) := by
  refine ACall.body tab_ok (ρ := 0) (N := 21) Try.func108 rfl rfl rfl rfl rfl ?_
  repeat' first | refine AW.seq ?_ | refine AW.block ?_ | ((first | refine AW.region tab_ok ?_ | refine AW.cond ?_ | refine AW.skip ?_ | refine AW.ret ?_ | refine AW.exit ?_); conv => whnf) | ((first | refine And.intro (@rfl Val _) ?_ | refine And.intro (by decide) ?_ | refine cs (fun _ => ?_) (fun _ => ?_)) <;> conv => whnf)
  all_goals
    refine ⟨outb ?_, rfl⟩
    rw [Bool.eq_iff_iff]
    simp at *
    simp [letterF]
    omega
set_option maxRecDepth 10000 in
theorem rletter_call (c : Int) : ACall Try.prog 112 [.c (.d (.int .u8 c))] [] (fun o σ => o = .ret (.c (.d (.bool (letterF c)))) ∧ σ = []) := by
  refine ACall.body tab_ok (ρ := 0) (N := 21) Try.func112 rfl rfl rfl rfl rfl ?_
  repeat' first | refine AW.seq ?_ | refine AW.block ?_ | ((first | refine AW.region tab_ok ?_ | refine AW.cond ?_ | refine AW.skip ?_ | refine AW.ret ?_ | refine AW.exit ?_); conv => whnf) | ((first | refine And.intro (@rfl Val _) ?_ | refine And.intro (by decide) ?_ | refine cs (fun _ => ?_) (fun _ => ?_)) <;> conv => whnf)
  all_goals
    refine ⟨outb ?_, rfl⟩
    rw [Bool.eq_iff_iff]
    simp at *
    simp [letterF]
    omega
def keysF : List ByteArray := [⟨#[108, 101, 116]⟩, ⟨#[105, 110]⟩, ⟨#[105, 102]⟩, ⟨#[116, 104, 101, 110]⟩, ⟨#[101, 108, 115, 101]⟩, ⟨#[114, 101, 99]⟩, ⟨#[99, 97, 115, 101]⟩, ⟨#[111, 102]⟩, ⟨#[102, 115, 116]⟩, ⟨#[115, 110, 100]⟩, ⟨#[105, 110, 108]⟩, ⟨#[105, 110, 114]⟩, ⟨#[116, 114, 117, 101]⟩, ⟨#[102, 97, 108, 115, 101]⟩, ⟨#[105, 110, 116]⟩, ⟨#[98, 111, 111, 108]⟩]
def keyF (s : ByteArray) : Bool := keysF.any (fun k => decide (s = k))
set_option maxRecDepth 10000 in
theorem key_call (s : ByteArray) : ACall Try.prog 107 [.c (.d (.str s))] [] (fun o σ => o = .ret (.c (.d (.bool (keyF s)))) ∧ σ = []) := by
  refine ACall.body tab_ok (ρ := 0) (N := 22) Try.func107 rfl rfl rfl rfl rfl ?_
  repeat' first | refine AW.seq ?_ | refine AW.block ?_ | ((first | refine AW.region tab_ok ?_ | refine AW.cond ?_ | refine AW.skip ?_ | refine AW.ret ?_ | refine AW.exit ?_); conv => whnf) | ((first | refine And.intro (@rfl Val _) ?_ | refine And.intro (by decide) ?_ | refine cs (fun _ => ?_) (fun _ => ?_)) <;> conv => whnf)
  all_goals
    refine ⟨outb ?_, rfl⟩
    simp at *
    simp [keyF, keysF, *]
set_option maxRecDepth 10000 in
theorem rkey_call (s : ByteArray) : ACall Try.prog 111 [.c (.d (.str s))] [] (fun o σ => o = .ret (.c (.d (.bool (keyF s)))) ∧ σ = []) := by
  refine ACall.body tab_ok (ρ := 0) (N := 21) Try.func111 rfl rfl rfl rfl rfl ?_
  repeat' first | refine AW.seq ?_ | refine AW.block ?_ | ((first | refine AW.region tab_ok ?_ | refine AW.cond ?_ | refine AW.skip ?_ | refine AW.ret ?_ | refine AW.exit ?_); conv => whnf) | ((first | refine And.intro (@rfl Val _) ?_ | refine And.intro (by decide) ?_ | refine cs (fun _ => ?_) (fun _ => ?_)) <;> conv => whnf)
  all_goals
    refine ⟨outb ?_, rfl⟩
    simp at *
    simp [keyF, keysF, *]

/-! ### names -/
def nbF (c : Int) : Bool := letterF c || digitF c
def bytesF (s : ByteArray) : Nat → Bool
  | 0 => true
  | i + 1 => bytesF s i && nbF (byteAt s i)
def nameF (s : ByteArray) : Bool := !decide (s = ⟨#[]⟩) && decide (s.size ≤ 64) && !keyF s && !digitF (byteAt s 0) && bytesF s s.size
theorem pos_size {s : ByteArray} (h : ¬ s = ⟨#[]⟩) : 0 < s.size := by
  rcases Nat.eq_zero_or_pos s.size with e | e
  · exfalso
    apply h
    obtain ⟨d⟩ := s
    have : d.size = 0 := e
    have : d = #[] := Array.eq_empty_of_size_eq_zero this
    rw [this]
  · exact e
theorem bytesF_false (s : ByteArray) : ∀ (n i : Nat), i < n → nbF (byteAt s i) = false → bytesF s n = false
  | n + 1, i, hi, h => by
    simp only [bytesF]
    by_cases e : i = n
    · subst e; rw [h]; simp
    · rw [bytesF_false s n i (by omega) h]; rfl
structure ByteI (s : ByteArray) where
  i : Nat
  hi : i ≤ s.size
  h : bytesF s i = true
theorem byte_row {s : ByteArray} {i : Nat} {row : List DV} (h : (s.data.toList.map fun b => [DV.int .u8 b.toNat])[i]? = some row) : i < s.size ∧ row = [.int .u8 (byteAt s i)] := by
  rw [List.getElem?_map] at h
  cases hb : s.data.toList[i]? with
  | none => rw [hb] at h; cases h
  | some b =>
    rw [hb] at h
    cases h
    have hl := (List.getElem?_eq_some_iff.1 hb).1
    refine ⟨by simpa using hl, ?_⟩
    simp only [byteAt, Int.toNat_natCast, hb]
    rfl
theorem bytes_len (s : ByteArray) : (s.data.toList.map fun b => [DV.int .u8 b.toNat]).length = s.size := by
  rw [List.length_map, Array.length_toList]; rfl

set_option maxRecDepth 10000 in
theorem name_call (s : ByteArray) : ACall Try.prog 91 [.c (.d (.str s))] [] (fun o σ => o = .ret (.c (.d (.bool (nameF s)))) ∧ σ = []) := by
  refine ACall.body tab_ok (ρ := 0) (N := 37) Try.func91 rfl rfl rfl rfl rfl ?_
  repeat' first | refine AW.seq ?_ | refine AW.block ?_ | ((first | refine AW.region tab_ok ?_ | refine AW.cond ?_ | refine AW.skip ?_ | refine AW.ret ?_ | refine AW.exit ?_); conv => whnf) | ((first | refine (digit_call _).mono ?_ | refine (key_call _).mono ?_ | refine (letter_call _).mono ?_); rintro _ _ ⟨rfl, rfl⟩; conv => whnf) | ((first | refine And.intro (@rfl Val _) ?_ | refine And.intro (by decide) ?_ | refine cs (fun _ => ?_) (fun _ => ?_)) <;> conv => whnf)
  · rename_i h
    refine ⟨outb ?_, rfl⟩
    simp at h
    simp [nameF, h]
  · rename_i h0 h
    refine ⟨outb ?_, rfl⟩
    simp at h
    have : ¬ s.size ≤ 64 := by omega
    simp [nameF, this]
  · rename_i h0 h
    simp at h0 h
    have hs := pos_size h0
    have h64 : s.size ≤ 64 := by omega
    refine ⟨⟨by omega, by omega⟩, ?_⟩
    conv => whnf
    repeat' first | refine AW.seq ?_ | refine AW.block ?_ | ((first | refine AW.region tab_ok ?_ | refine AW.cond ?_ | refine AW.skip ?_ | refine AW.ret ?_ | refine AW.exit ?_); conv => whnf) | ((first | refine (digit_call _).mono ?_ | refine (key_call _).mono ?_ | refine (letter_call _).mono ?_); rintro _ _ ⟨rfl, rfl⟩; conv => whnf) | ((first | refine And.intro (@rfl Val _) ?_ | refine And.intro (by decide) ?_ | refine cs (fun _ => ?_) (fun _ => ?_)) <;> conv => whnf)
    · rename_i h1
      refine ⟨outb ?_, rfl⟩
      simp at h1
      simp [nameF, h1]
    · rename_i h1 h2
      refine ⟨outb ?_, rfl⟩
      simp at h1 h2
      simp [nameF, h1, h2]
    · rename_i h1 h2
      simp at h1 h2
      refine AW.loop (ι := ByteI s) (fun x => ⟨37, [(24, .c (.d (.int .i64 x.i))), (23, .c (.d (.int .i64 (s.data.toList.map fun b => [DV.int .u8 b.toNat]).length))), (22, .c (.d (.sl 0 1 (s.data.toList.map fun b => [DV.int .u8 b.toNat]))))], [], []⟩)
        (fun x => s.size - x.i) ⟨0, Nat.zero_le _, rfl⟩ 0 (fun _ => rfl) (Nat.le_of_ble_eq_true rfl) ⟨⟨rfl, rfl, rfl, trivial⟩, rfl, rfl, ⟨[], rfl⟩, rfl⟩ (fun x => ?_)
      obtain ⟨i, hi, hj⟩ := x
      repeat' first | refine AW.seq ?_ | refine AW.block ?_ | ((first | refine AW.region tab_ok ?_ | refine AW.cond ?_ | refine AW.skip ?_ | refine AW.ret ?_ | refine AW.exit ?_); conv => whnf) | ((first | refine And.intro (@rfl Val _) ?_ | refine And.intro (by decide) ?_ | refine cs (fun _ => ?_) (fun _ => ?_)) <;> conv => whnf)
      · rename_i h3
        simp only [bytes_len] at h3 ⊢
        have := of_decide_eq_true h3
        refine ⟨by omega, fun row hrow => ?_⟩
        obtain ⟨hlt, rfl⟩ := byte_row (i := i) (by simpa using hrow)
        conv => whnf
        repeat' first | refine AW.seq ?_ | refine AW.block ?_ | ((first | refine AW.region tab_ok ?_ | refine AW.cond ?_ | refine AW.skip ?_ | refine AW.ret ?_ | refine AW.exit ?_); conv => whnf) | ((first | refine (digit_call _).mono ?_ | refine (letter_call _).mono ?_); rintro _ _ ⟨rfl, rfl⟩; conv => whnf) | ((first | refine And.intro (@rfl Val _) ?_ | refine And.intro (by decide) ?_ | refine cs (fun _ => ?_) (fun _ => ?_)) <;> conv => whnf)
        · rename_i h4 h5
          simp at h4 h5
          refine ⟨outb ?_, rfl⟩
          have := bytesF_false s s.size i hlt (by simp [nbF, h4, h5])
          simp [nameF, this]
        · rename_i h4 h5
          simp at h4 h5
          rw [wrap64 (x := (i : Int) + 1) (by omega) (by omega)]
          exact ⟨⟨i + 1, hlt, by simp [bytesF, hj, nbF, h5]⟩, ⟨⟨rfl, rfl, rfl, trivial⟩, rfl, rfl, ⟨[], rfl⟩, rfl⟩, show s.size - (i + 1) < s.size - i by omega⟩
        · rename_i h4
          simp at h4
          rw [wrap64 (x := (i : Int) + 1) (by omega) (by omega)]
          exact ⟨⟨i + 1, hlt, by simp [bytesF, hj, nbF, h4]⟩, ⟨⟨rfl, rfl, rfl, trivial⟩, rfl, rfl, ⟨[], rfl⟩, rfl⟩, show s.size - (i + 1) < s.size - i by omega⟩
      · rename_i h3
        simp only [bytes_len] at h3
        have := of_decide_eq_false h3
        obtain rfl : i = s.size := by omega
        refine ⟨outb ?_, rfl⟩
        simp [nameF, h0, h64, h1, h2, hj]
theorem first_letter {s : ByteArray} (h : 0 < s.size) (h1 : bytesF s s.size = true) : letterF (byteAt s 0) = !digitF (byteAt s 0) := by
  have h2 : nbF (byteAt s 0) = true := by
    cases hc : nbF (byteAt s 0) with
    | true => rfl
    | false => rw [bytesF_false s s.size 0 h hc] at h1; cases h1
  simp only [nbF] at h2
  cases hl : letterF (byteAt s 0) with
  | false => rw [hl] at h2; simp at h2; simp [h2]
  | true =>
    cases hd : digitF (byteAt s 0) with
    | false => rfl
    | true =>
      simp [letterF, digitF] at hl hd
      omega
set_option maxRecDepth 10000 in
theorem rname_call (s : ByteArray) : ACall Try.prog 96 [.c (.d (.str s))] [] (fun o σ => o = .ret (.c (.d (.bool (nameF s)))) ∧ σ = []) := by
  refine ACall.body tab_ok (ρ := 0) (N := 39) Try.func96 rfl rfl rfl rfl rfl ?_
  repeat' first | refine AW.seq ?_ | refine AW.block ?_ | ((first | refine AW.region tab_ok ?_ | refine AW.cond ?_ | refine AW.skip ?_ | refine AW.ret ?_ | refine AW.exit ?_); conv => whnf) | ((first | refine (rdigit_call _).mono ?_ | refine (rkey_call _).mono ?_ | refine (rletter_call _).mono ?_); rintro _ _ ⟨rfl, rfl⟩; conv => whnf) | ((first | refine And.intro (@rfl Val _) ?_ | refine And.intro (by decide) ?_ | refine cs (fun _ => ?_) (fun _ => ?_)) <;> conv => whnf)
  · rename_i h
    refine ⟨outb ?_, rfl⟩
    simp at h
    simp [nameF, h]
  · rename_i h0 h
    refine ⟨outb ?_, rfl⟩
    simp at h
    have : ¬ s.size ≤ 64 := by omega
    simp [nameF, this]
  · rename_i h0 h h1
    refine ⟨outb ?_, rfl⟩
    simp at h1
    simp [nameF, h1]
  · rename_i h0 h h1
    simp at h0 h h1
    have hs := pos_size h0
    have h64 : s.size ≤ 64 := by omega
    refine ⟨⟨by omega, by omega⟩, ?_⟩
    conv => whnf
    repeat' first | refine AW.seq ?_ | refine AW.block ?_ | ((first | refine AW.region tab_ok ?_ | refine AW.cond ?_ | refine AW.skip ?_ | refine AW.ret ?_ | refine AW.exit ?_); conv => whnf) | ((first | refine (rdigit_call _).mono ?_ | refine (rkey_call _).mono ?_ | refine (rletter_call _).mono ?_); rintro _ _ ⟨rfl, rfl⟩; conv => whnf) | ((first | refine And.intro (@rfl Val _) ?_ | refine And.intro (by decide) ?_ | refine cs (fun _ => ?_) (fun _ => ?_)) <;> conv => whnf)
    · rename_i h2
      refine ⟨outb ?_, rfl⟩
      simp at h2
      cases hb : bytesF s s.size with
      | false => simp [nameF, hb]
      | true =>
        have := first_letter hs hb
        rw [h2] at this
        simp at this
        simp [nameF, this]
    · rename_i h2
      simp at h2
      refine AW.loop (ι := ByteI s) (fun x => ⟨39, [(3, .c (.d (.int .i64 x.i))), (0, .c (.d (.str s)))], [], []⟩)
        (fun x => s.size - x.i) ⟨0, Nat.zero_le _, rfl⟩ 0 (fun _ => rfl) (Nat.le_of_ble_eq_true rfl) ⟨⟨rfl, rfl, trivial⟩, rfl, rfl, ⟨[], rfl⟩, rfl⟩ (fun x => ?_)
      obtain ⟨i, hi, hj⟩ := x
      repeat' first | refine AW.seq ?_ | refine AW.block ?_ | ((first | refine AW.region tab_ok ?_ | refine AW.cond ?_ | refine AW.skip ?_ | refine AW.ret ?_ | refine AW.exit ?_); conv => whnf) | ((first | refine And.intro (@rfl Val _) ?_ | refine And.intro (by decide) ?_ | refine cs (fun _ => ?_) (fun _ => ?_)) <;> conv => whnf)
      · rename_i h3
        have := of_decide_eq_true h3
        have hlt : i < s.size := by simpa using this
        refine ⟨⟨by simp, by simpa using hlt⟩, ?_⟩
        conv => whnf
        repeat' first | refine AW.seq ?_ | refine AW.block ?_ | ((first | refine AW.region tab_ok ?_ | refine AW.cond ?_ | refine AW.skip ?_ | refine AW.ret ?_ | refine AW.exit ?_); conv => whnf) | (refine (rletter_call _).mono ?_; rintro _ _ ⟨rfl, rfl⟩; conv => whnf) | ((first | refine And.intro (@rfl Val _) ?_ | refine And.intro (by decide) ?_ | refine cs (fun _ => ?_) (fun _ => ?_)) <;> conv => whnf)
        · rename_i h4
          simp at h4
          refine ⟨⟨by simp, by simpa using hlt⟩, ?_⟩
          conv => whnf
          repeat' first | refine AW.seq ?_ | refine AW.block ?_ | ((first | refine AW.region tab_ok ?_ | refine AW.cond ?_ | refine AW.skip ?_ | refine AW.ret ?_ | refine AW.exit ?_); conv => whnf) | (refine (rdigit_call _).mono ?_; rintro _ _ ⟨rfl, rfl⟩; conv => whnf) | ((first | refine And.intro (@rfl Val _) ?_ | refine And.intro (by decide) ?_ | refine cs (fun _ => ?_) (fun _ => ?_)) <;> conv => whnf)
          · rename_i h5
            simp at h5
            refine ⟨outb ?_, rfl⟩
            have := bytesF_false s s.size i hlt (by simp [nbF, h4, h5])
            simp [nameF, this]
          · rename_i h5
            simp at h5
            rw [wrap64 (x := (i : Int) + 1) (by omega) (by omega)]
            exact ⟨⟨i + 1, hlt, by simp [bytesF, hj, nbF, h5]⟩, ⟨⟨rfl, rfl, trivial⟩, rfl, rfl, ⟨[], rfl⟩, rfl⟩, show s.size - (i + 1) < s.size - i by omega⟩
        · rename_i h4
          simp at h4
          rw [wrap64 (x := (i : Int) + 1) (by omega) (by omega)]
          exact ⟨⟨i + 1, hlt, by simp [bytesF, hj, nbF, h4]⟩, ⟨⟨rfl, rfl, trivial⟩, rfl, rfl, ⟨[], rfl⟩, rfl⟩, show s.size - (i + 1) < s.size - i by omega⟩
      · rename_i h3
        have := of_decide_eq_false h3
        obtain rfl : i = s.size := by simp at this; omega
        refine ⟨outb ?_, rfl⟩
        have := first_letter hs hj
        rw [h2] at this
        simp at this
        simp [nameF, h0, h64, h1, this, hj]
end Go.Proofs.Ytlboogackecjlaa.E
