/- Walks: agree of both. No conditions. -/
import Derived.Test.YtoglfnjankinnaaTy6
set_option linter.unusedVariables false
set_option linter.unusedSimpArgs false
namespace Go.Proofs.Ytoglfnjankinnaa.E
open Go

mutual
def agreeF : Ty → Ty → Bool
  | .node k ks, .node k' ks' => k == 0 || k' == 0 || (k == k' && agreeL ks ks')
def agreeL : List Ty → List Ty → Bool
  | [], _ => true
  | x :: xs, y :: ys => agreeF x y && agreeL xs ys
  | _ :: _, [] => false
end
theorem agreeL_all : ∀ (ks ks' : List Ty), ks.length = ks'.length → (agreeL ks ks' = true ↔ ∀ (j : Nat) x y, ks[j]? = some x → ks'[j]? = some y → agreeF x y = true)
  | [], [], _ => by simp [agreeL]
  | x :: xs, y :: ys, h => by
    simp only [agreeL, Bool.and_eq_true, agreeL_all xs ys (by simpa using h)]
    constructor
    · rintro ⟨h1, h2⟩ j a b ha hb
      cases j with
      | zero => simp at ha hb; subst ha; subst hb; exact h1
      | succ j => exact h2 j a b (by simpa using ha) (by simpa using hb)
    · intro h
      exact ⟨h 0 x y rfl rfl, fun j a b ha hb => h (j + 1) a b (by simpa using ha) (by simpa using hb)⟩
structure AgreeI (ks ks' : List Ty) where
  i : Nat
  hi : i ≤ ks.length
  h : ∀ (j : Nat), j < i → ∀ x y, ks[j]? = some x → ks'[j]? = some y → agreeF x y = true
set_option maxRecDepth 10000 in
theorem level_call (a : Ty) : ∀ b, tright a = true → tright b = true → ACall Try.prog 157 [a.val, b.val] [] (fun o σ => o = .ret (.c (.d (.bool (agreeF a b)))) ∧ σ = []) := by
  induction a using Ty.ind with
  | _ k ks ih =>
  rintro ⟨k', ks'⟩ ha hb
  refine ACall.body tab_ok (ρ := 0) (N := 44) Try.func157 rfl rfl rfl rfl rfl ?_
  repeat' first
    | refine AW.seq ?_
    | refine AW.block ?_
    | (refine AW.region tab_ok ?_; conv => whnf)
    | (refine AW.draw (id := 10) tab_ok mixed [0, 1, 2, 3, 4, 5, 6, 7, 8, 9, 10, 11] (by kernel_rfl) ?_; conv => whnf)
    | (refine AW.cond ?_; conv => whnf)
    | (refine AW.skip ?_; conv => whnf)
    | (refine AW.ret ?_; conv => whnf)
    | (refine AW.exit ?_; conv => whnf)
    | (refine And.intro (@rfl Val _) ?_; conv => whnf)
    | (refine And.intro (by decide) ?_; conv => whnf)
    | (refine cs (fun _ => ?_) (fun _ => ?_) <;> conv => whnf)
  · rename_i h
    refine ⟨?_, rfl⟩
    simp at h
    simp [oneOf, agreeF, h]
  · rename_i h0 h
    refine ⟨?_, rfl⟩
    simp at h h0
    simp [oneOf, agreeF, h, h0]
  · rename_i h00 h0 h
    refine ⟨?_, rfl⟩
    simp at h h0 h00
    simp [oneOf, agreeF, h, h0, h00]
  · rename_i h00 h0 h
    have e : k = k' := by simpa using h
    subst e
    have hkk : ks.length = ks'.length := right_eq_len ha hb
    have hle := parts_le k
    have hl1 := tright_len ha
    refine AW.loop (ι := AgreeI ks ks') (fun x => ⟨44, [(28, .c (.d (.int .i64 x.i))), (27, .c (.d (.int .i64 (Ty.rows ks).length))), (2, .c (.ptr 0 0)), (3, .c (.ptr 1 0))], [.var [.d (.int .i8 k), .d (.sl 0 2 (Ty.rows ks))], .var [.d (.int .i8 k), .d (.sl 0 2 (Ty.rows ks'))], .var [.d (.int .i8 k), .d (.int .i8 k)]], []⟩)
      (fun x => ks.length - x.i) ⟨0, Nat.zero_le _, fun j h => by omega⟩ 3 (fun _ => rfl) (Nat.le_of_ble_eq_true rfl) ⟨⟨rfl, rfl, rfl, rfl, trivial⟩, rfl, rfl, ⟨[], rfl⟩, rfl⟩ (fun x => ?_)
    obtain ⟨i, hi, hj⟩ := x
    repeat' first
      | refine AW.seq ?_
      | refine AW.block ?_
      | (refine AW.region tab_ok ?_; conv => whnf)
      | (refine AW.draw (id := 10) tab_ok mixed [0, 1, 2, 3, 4, 5, 6, 7, 8, 9, 10, 11] (by kernel_rfl) ?_; conv => whnf)
      | (refine AW.cond ?_; conv => whnf)
      | (refine AW.skip ?_; conv => whnf)
      | (refine AW.ret ?_; conv => whnf)
      | (refine AW.exit ?_; conv => whnf)
      | (refine And.intro (@rfl Val _) ?_; conv => whnf)
      | (refine And.intro (by decide) ?_; conv => whnf)
      | (refine cs (fun _ => ?_) (fun _ => ?_) <;> conv => whnf)
    · rename_i h1
      simp only [rows_length] at h1 ⊢
      have := of_decide_eq_true h1
      refine ⟨by omega, fun row hrow => ?_⟩
      obtain ⟨⟨kx, kxs⟩, ht, rfl⟩ := rows_get ks i row (by simpa using hrow)
      have hlt : i < ks.length := (List.getElem?_eq_some_iff.1 ht).1
      have hm := List.mem_of_getElem? ht
      conv => whnf
      repeat' first
        | refine AW.seq ?_
        | refine AW.block ?_
        | (refine AW.region tab_ok ?_; conv => whnf)
        | (refine AW.draw (id := 10) tab_ok mixed [0, 1, 2, 3, 4, 5, 6, 7, 8, 9, 10, 11] (by kernel_rfl) ?_; conv => whnf)
        | (refine AW.cond ?_; conv => whnf)
        | (refine AW.skip ?_; conv => whnf)
        | (refine AW.ret ?_; conv => whnf)
        | (refine AW.exit ?_; conv => whnf)
        | (refine And.intro (@rfl Val _) ?_; conv => whnf)
        | (refine And.intro (by decide) ?_; conv => whnf)
        | (refine cs (fun _ => ?_) (fun _ => ?_) <;> conv => whnf)
      simp only [rows_length]
      refine ⟨by omega, fun row hrow => ?_⟩
      obtain ⟨⟨ky, kys⟩, hu, rfl⟩ := rows_get ks' i row (by simpa using hrow)
      have hm' := List.mem_of_getElem? hu
      conv => whnf
      repeat' first
        | refine AW.seq ?_
        | refine AW.block ?_
        | (refine AW.region tab_ok ?_; conv => whnf)
        | (refine AW.draw (id := 10) tab_ok mixed [0, 1, 2, 3, 4, 5, 6, 7, 8, 9, 10, 11] (by kernel_rfl) ?_; conv => whnf)
        | (refine AW.cond ?_; conv => whnf)
        | (refine AW.skip ?_; conv => whnf)
        | (refine AW.ret ?_; conv => whnf)
        | (refine AW.exit ?_; conv => whnf)
        | (refine (ih _ hm _ (tright_kid ha hm) (tright_kid hb hm')).mono ?_; rintro _ _ ⟨rfl, rfl⟩; conv => whnf)
        | (refine And.intro (@rfl Val _) ?_; conv => whnf)
        | (refine And.intro (by decide) ?_; conv => whnf)
        | (refine cs (fun _ => ?_) (fun _ => ?_) <;> conv => whnf)
      · rename_i h2
        refine ⟨?_, rfl⟩
        have h2 : agreeF (Ty.node kx kxs) (Ty.node ky kys) = false := by simpa using h2
        have : agreeL ks ks' = false := by
          cases hc : agreeL ks ks' with
          | false => rfl
          | true => rw [(agreeL_all ks ks' hkk).1 hc i _ _ ht hu] at h2; cases h2
        simp_all [oneOf, agreeF, this]
      · rename_i h2
        have h2 : agreeF (Ty.node kx kxs) (Ty.node ky kys) = true := by simpa using h2
        rw [wrap64 (x := (i : Int) + 1) (by omega) (by omega)]
        refine ⟨⟨i + 1, hlt, fun j h x y hx hy => ?_⟩, ⟨⟨rfl, rfl, rfl, rfl, trivial⟩, rfl, rfl, ⟨[], rfl⟩, rfl⟩, show ks.length - (i + 1) < ks.length - i by omega⟩
        by_cases e : j = i
        · subst e; rw [ht] at hx; rw [hu] at hy; cases hx; cases hy; exact h2
        · exact hj j (by omega) x y hx hy
    · rename_i h1
      simp only [rows_length] at h1
      have := of_decide_eq_false h1
      obtain rfl : i = ks.length := by omega
      refine ⟨?_, rfl⟩
      have : agreeL ks ks' = true := (agreeL_all ks ks' hkk).2 fun j x y hx hy => hj j (List.getElem?_eq_some_iff.1 hx).1 x y hx hy
      simp_all [oneOf, agreeF, this]
def agreeS (a b : Ty) : Bool := decide (tcheck a = 0) && decide (tcheck b = 0) && agreeF a b
set_option maxRecDepth 10000 in
theorem Agree_call (a b : Ty) : ACall Try.prog 110 [a.val, b.val] [] (fun o σ => o = .ret (.c (.d (.bool (agreeS a b)))) ∧ σ = []) := by
  obtain ⟨k, ks⟩ := a
  obtain ⟨k', ks'⟩ := b
  refine ACall.body tab_ok (ρ := 0) (N := 18) Try.func110 rfl rfl rfl rfl rfl ?_
  repeat' first
    | refine AW.seq ?_
    | refine AW.block ?_
    | (refine AW.region tab_ok ?_; conv => whnf)
    | (refine AW.cond ?_; conv => whnf)
    | (refine AW.skip ?_; conv => whnf)
    | (refine AW.ret ?_; conv => whnf)
    | (refine AW.exit ?_; conv => whnf)
    | (refine (check_call (.node k ks)).mono ?_; rintro _ _ ⟨rfl, rfl⟩; conv => whnf)
    | (refine (check_call (.node k' ks')).mono ?_; rintro _ _ ⟨rfl, rfl⟩; conv => whnf)
    | (refine And.intro (@rfl Val _) ?_; conv => whnf)
    | (refine And.intro (by decide) ?_; conv => whnf)
    | (refine cs (fun _ => ?_) (fun _ => ?_) <;> conv => whnf)
  · rename_i h1 h2
    have h1 : tcheck (.node k ks) = 0 := by simpa using h1
    have h2 : tcheck (.node k' ks') = 0 := by simpa using h2
    refine (level_call (.node k ks) (.node k' ks') (tcheck_right h1) (tcheck_right h2)).mono ?_
    rintro _ _ ⟨rfl, rfl⟩
    conv => whnf
    repeat' first
      | refine AW.seq ?_
      | refine AW.block ?_
      | (refine AW.region tab_ok ?_; conv => whnf)
      | (refine AW.cond ?_; conv => whnf)
      | (refine AW.skip ?_; conv => whnf)
      | (refine AW.ret ?_; conv => whnf)
      | (refine AW.exit ?_; conv => whnf)
      | (refine And.intro (@rfl Val _) ?_; conv => whnf)
      | (refine And.intro (by decide) ?_; conv => whnf)
      | (refine cs (fun _ => ?_) (fun _ => ?_) <;> conv => whnf)
    refine ⟨?_, rfl⟩
    simp [oneOf, agreeS, h1, h2]
  · rename_i h1 h2
    refine ⟨?_, rfl⟩
    simp at h1 h2
    simp [oneOf, agreeS, h1, h2]
  · rename_i h1
    refine ⟨?_, rfl⟩
    simp at h1
    simp [oneOf, agreeS, h1]
end Go.Proofs.Ytoglfnjankinnaa.E
