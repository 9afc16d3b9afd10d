/- Walks: less of both; Less of both; the law. No conditions. -/
import Derived.Test.YtoglfnjankinnaaTy4
set_option linter.unusedVariables false
set_option linter.unusedSimpArgs false
namespace Go.Proofs.Ytoglfnjankinnaa.E
open Go

mutual
def lessF : Ty → Ty → Bool
  | .node k ks, .node k' ks' => k == 0 || (k == k' && lessL ks ks')
def lessL : List Ty → List Ty → Bool
  | [], _ => true
  | x :: xs, y :: ys => lessF x y && lessL xs ys
  | _ :: _, [] => false
end
theorem lessL_all : ∀ (ks ks' : List Ty), ks.length = ks'.length → (lessL ks ks' = true ↔ ∀ (j : Nat) x y, ks[j]? = some x → ks'[j]? = some y → lessF x y = true)
  | [], [], _ => by simp [lessL]
  | x :: xs, y :: ys, h => by
    simp only [lessL, Bool.and_eq_true, lessL_all xs ys (by simpa using h)]
    constructor
    · rintro ⟨h1, h2⟩ j a b ha hb
      cases j with
      | zero => simp at ha hb; subst ha; subst hb; exact h1
      | succ j => exact h2 j a b (by simpa using ha) (by simpa using hb)
    · intro h
      exact ⟨h 0 x y rfl rfl, fun j a b ha hb => h (j + 1) a b (by simpa using ha) (by simpa using hb)⟩

theorem tright_len {k : Int} {ks : List Ty} (h : tright (.node k ks) = true) : parts k = ks.length := by
  simp [tright] at h; exact h.1
theorem tright_kid {k : Int} {ks : List Ty} (h : tright (.node k ks) = true) {t : Ty} (ht : t ∈ ks) : tright t = true := by
  simp [tright] at h
  exact (trights_all ks).1 h.2 t ht
theorem parts_le (k : Int) : parts k ≤ 2 := by
  unfold parts; split
  · omega
  · split <;> omega

structure LessI (ks ks' : List Ty) where
  i : Nat
  hi : i ≤ ks.length
  h : ∀ (j : Nat), j < i → ∀ x y, ks[j]? = some x → ks'[j]? = some y → lessF x y = true

set_option maxRecDepth 10000 in
theorem stop_call (k k' : Int) (ks ks' : List Ty) : ACall Try.prog 153 [.c (.d (.rp 0 (Ty.node k ks).cells)), .c (.d (.rp 0 (Ty.node k' ks').cells))] [] (fun o σ => o = .ret (.tup [.c (.d (.bool (k == 0))), .c (.d (.bool (k == 0 || k != k')))]) ∧ σ = []) := by
  refine ACall.body tab_ok (ρ := 0) (N := 20) Try.func153 rfl rfl rfl rfl rfl ?_
  repeat' first
    | refine AW.seq ?_
    | refine AW.block ?_
    | (refine AW.region tab_ok ?_; conv => whnf)
    | (refine AW.draw (id := 3) tab_ok mixed [0, 1, 2, 3, 4, 5, 6, 7, 8, 9, 10] (by kernel_rfl) ?_; conv => whnf)
    | (refine AW.cond ?_; conv => whnf)
    | (refine AW.skip ?_; conv => whnf)
    | (refine AW.ret ?_; conv => whnf)
    | (refine AW.exit ?_; conv => whnf)
    | (refine And.intro (@rfl Val _) ?_; conv => whnf)
    | (refine And.intro (by decide) ?_; conv => whnf)
    | (refine cs (fun _ => ?_) (fun _ => ?_) <;> conv => whnf)
  · rename_i h
    refine ⟨?_, rfl⟩
    rw [h]; rfl
  · rename_i h
    refine ⟨?_, rfl⟩
    rw [h]; rfl
set_option maxRecDepth 10000 in
theorem down_call (a : Ty) : ∀ b, tright a = true → tright b = true → ACall Try.prog 152 [.c (.d (.rp 0 a.cells)), .c (.d (.rp 0 b.cells)), .c (.fn 153 [] [])] [] (fun o σ => o = .ret (.c (.d (.bool (lessF a b)))) ∧ σ = []) := by
  induction a using Ty.ind with
  | _ k ks ih =>
  rintro ⟨k', ks'⟩ ha hb
  refine ACall.body tab_ok (ρ := 0) (N := 43) Try.func152 rfl rfl rfl rfl rfl ?_
  repeat' first
    | refine AW.seq ?_
    | refine AW.block ?_
    | (refine AW.region tab_ok ?_; conv => whnf)
    | (refine AW.draw (id := 7) tab_ok mixed [0, 1, 2, 3, 4, 5, 6, 7, 8, 9, 10, 11, 12, 13, 14] (by kernel_rfl) ?_; conv => whnf)
    | (refine AW.cond ?_; conv => whnf)
    | (refine AW.skip ?_; conv => whnf)
    | (refine AW.ret ?_; conv => whnf)
    | (refine AW.exit ?_; conv => whnf)
    | (refine (stop_call _ _ _ _).mono ?_; rintro _ _ ⟨rfl, rfl⟩; conv => whnf)
    | (refine And.intro (@rfl Val _) ?_; conv => whnf)
    | (refine And.intro (by decide) ?_; conv => whnf)
    | (refine cs (fun _ => ?_) (fun _ => ?_) <;> conv => whnf)
  · rename_i h
    refine ⟨?_, rfl⟩
    simp at h
    show Out.ret (Val.c (.d (.bool (k == 0)))) = _
    simp only [lessF]
    rcases h with h | h
    · simp [h]
    · simp [h]
  · rename_i h00
    have h0 : (k == 0) = false := by cases e : (k == 0) <;> simp_all
    have h : (k != k') = false := by cases e : (k != k') <;> simp_all
    have e : k = k' := by simpa using h
    subst e
    have hkk : ks.length = ks'.length := by
      have := tright_len ha
      have := tright_len hb
      omega
    have hle := parts_le k
    have hl1 := tright_len ha
    refine AW.loop (ι := LessI ks ks') (fun x => ⟨43, [(24, .c (.d (.int .i64 x.i))), (23, .c (.d (.int .i64 (Ty.rows ks).length))), (0, .c (.d (.rp 0 (Ty.node k ks).cells))), (1, .c (.d (.rp 0 (Ty.node k ks').cells))), (2, .c (.fn 153 [] []))], [], []⟩)
      (fun x => ks.length - x.i) ⟨0, Nat.zero_le _, fun j h => by omega⟩ 0 (fun _ => rfl) (Nat.le_of_ble_eq_true rfl) ⟨⟨rfl, rfl, rfl, rfl, rfl, trivial⟩, rfl, rfl, ⟨[], rfl⟩, rfl⟩ (fun x => ?_)
    obtain ⟨i, hi, hj⟩ := x
    repeat' first
      | refine AW.seq ?_
      | refine AW.block ?_
      | (refine AW.region tab_ok ?_; conv => whnf)
      | (refine AW.draw (id := 7) tab_ok mixed [0, 1, 2, 3, 4, 5, 6, 7, 8, 9, 10, 11, 12, 13, 14] (by kernel_rfl) ?_; conv => whnf)
      | (refine AW.cond ?_; conv => whnf)
      | (refine AW.skip ?_; conv => whnf)
      | (refine AW.ret ?_; conv => whnf)
      | (refine AW.exit ?_; conv => whnf)
      | (refine And.intro (@rfl Val _) ?_; conv => whnf)
      | (refine And.intro (by decide) ?_; conv => whnf)
      | (refine cs (fun _ => ?_) (fun _ => ?_) <;> conv => whnf)
    · rename_i h1
      simp only [rows_length] at h1 ⊢
      have := of_decide_eq_true h1
      refine ⟨by omega, fun row hrow => ?_⟩
      obtain ⟨⟨kx, kxs⟩, ht, rfl⟩ := rows_get ks i row (by simpa using hrow)
      have hlt : i < ks.length := (List.getElem?_eq_some_iff.1 ht).1
      have hm := List.mem_of_getElem? ht
      conv => whnf
      repeat' first
        | refine AW.seq ?_
        | refine AW.block ?_
        | (refine AW.region tab_ok ?_; conv => whnf)
        | (refine AW.draw (id := 7) tab_ok mixed [0, 1, 2, 3, 4, 5, 6, 7, 8, 9, 10, 11, 12, 13, 14] (by kernel_rfl) ?_; conv => whnf)
        | (refine AW.cond ?_; conv => whnf)
        | (refine AW.skip ?_; conv => whnf)
        | (refine AW.ret ?_; conv => whnf)
        | (refine AW.exit ?_; conv => whnf)
        | (refine And.intro (@rfl Val _) ?_; conv => whnf)
        | (refine And.intro (by decide) ?_; conv => whnf)
        | (refine cs (fun _ => ?_) (fun _ => ?_) <;> conv => whnf)
      simp only [rows_length]
      refine ⟨by omega, fun row hrow => ?_⟩
      obtain ⟨⟨ky, kys⟩, hu, rfl⟩ := rows_get ks' i row (by simpa using hrow)
      have hm' := List.mem_of_getElem? hu
      conv => whnf
      repeat' first
        | refine AW.seq ?_
        | refine AW.block ?_
        | (refine AW.region tab_ok ?_; conv => whnf)
        | (refine AW.draw (id := 7) tab_ok mixed [0, 1, 2, 3, 4, 5, 6, 7, 8, 9, 10, 11, 12, 13, 14] (by kernel_rfl) ?_; conv => whnf)
        | (refine AW.cond ?_; conv => whnf)
        | (refine AW.skip ?_; conv => whnf)
        | (refine AW.ret ?_; conv => whnf)
        | (refine AW.exit ?_; conv => whnf)
        | (refine (ih _ hm _ (tright_kid ha hm) (tright_kid hb hm')).mono ?_; rintro _ _ ⟨rfl, rfl⟩; conv => whnf)
        | (refine And.intro (@rfl Val _) ?_; conv => whnf)
        | (refine And.intro (by decide) ?_; conv => whnf)
        | (refine cs (fun _ => ?_) (fun _ => ?_) <;> conv => whnf)
      · rename_i h2
        refine ⟨?_, rfl⟩
        have h2 : lessF (Ty.node kx kxs) (Ty.node ky kys) = false := by simpa using h2
        have : lessL ks ks' = false := by
          cases hc : lessL ks ks' with
          | false => rfl
          | true => rw [(lessL_all ks ks' hkk).1 hc i _ _ ht hu] at h2; cases h2
        simp [oneOf, lessF, this]
        simpa using h0
      · rename_i h2
        have h2 : lessF (Ty.node kx kxs) (Ty.node ky kys) = true := by simpa using h2
        rw [wrap64 (x := (i : Int) + 1) (by omega) (by omega)]
        refine ⟨⟨i + 1, hlt, fun j h x y hx hy => ?_⟩, ⟨⟨rfl, rfl, rfl, rfl, rfl, trivial⟩, rfl, rfl, ⟨[], rfl⟩, rfl⟩, show ks.length - (i + 1) < ks.length - i by omega⟩
        by_cases e : j = i
        · subst e; rw [ht] at hx; rw [hu] at hy; cases hx; cases hy; exact h2
        · exact hj j (by omega) x y hx hy
    · rename_i h1
      simp only [rows_length] at h1
      have := of_decide_eq_false h1
      obtain rfl : i = ks.length := by omega
      refine ⟨?_, rfl⟩
      have : lessL ks ks' = true := (lessL_all ks ks' hkk).2 fun j x y hx hy => hj j (List.getElem?_eq_some_iff.1 hx).1 x y hx hy
      simp [oneOf, lessF, this]
/-! ### less, Less -/
set_option maxRecDepth 10000 in
theorem less_call (a b : Ty) (ha : tright a = true) (hb : tright b = true) : ACall Try.prog 97 [.c (.d (.rp 0 a.cells)), .c (.d (.rp 0 b.cells))] [] (fun o σ => o = .ret (.c (.d (.bool (lessF a b)))) ∧ σ = []) := by
  obtain ⟨k, ks⟩ := a
  obtain ⟨k', ks'⟩ := b
  refine ACall.body tab_ok (ρ := 0) (N := 8) Try.func97 rfl rfl rfl rfl rfl ?_
  repeat' first
    | refine AW.seq ?_
    | refine AW.block ?_
    | (refine AW.region tab_ok ?_; conv => whnf)
    | (refine AW.cond ?_; conv => whnf)
    | (refine AW.skip ?_; conv => whnf)
    | (refine AW.ret ?_; conv => whnf)
    | (refine AW.exit ?_; conv => whnf)
    | (refine (down_call (.node k ks) (.node k' ks') ha hb).mono ?_; rintro _ _ ⟨rfl, rfl⟩; conv => whnf)
    | (refine And.intro (@rfl Val _) ?_; conv => whnf)
    | (refine And.intro (by decide) ?_; conv => whnf)
    | (refine cs (fun _ => ?_) (fun _ => ?_) <;> conv => whnf)
  exact ⟨rfl, rfl⟩
theorem tcheck_right {t : Ty} (h : tcheck t = 0) : tright t = true := by
  unfold tcheck at h
  split at h
  · cases h
  · split at h
    · cases h
    · split at h
      · assumption
      · cases h
def lessS (a b : Ty) : Bool := decide (tcheck a = 0) && decide (tcheck b = 0) && lessF a b
end Go.Proofs.Ytoglfnjankinnaa.E
