/- Texts, merged: Ty6, Tm10, Tm11, Ty7, Ty8, Ty9, Tm12, Tm13, Tm15, Pm0, Pm1. No conditions. -/
import Derived.Test.YtmaokphbfjpodaaDoorGenX3
import Derived.Test.YtmaokphbfjpodaaDoorEngX3
/- Walks: types.equal, Same; the law OrderGoes. No conditions. -/
set_option linter.unusedVariables false
set_option linter.unusedSimpArgs false
namespace Go.Proofs.YtmaokphbfjpodaaDoor.E
open Go

mutual
def equalF : Ty → Ty → Bool
  | .node k ks, .node k' ks' => k == k' && equalL ks ks'
def equalL : List Ty → List Ty → Bool
  | [], _ => true
  | x :: xs, y :: ys => equalF x y && equalL xs ys
  | _ :: _, [] => false
end
theorem equalL_all : ∀ (ks ks' : List Ty), ks.length = ks'.length → (equalL ks ks' = true ↔ ∀ (j : Nat) x y, ks[j]? = some x → ks'[j]? = some y → equalF x y = true)
  | [], [], _ => by simp [equalL]
  | x :: xs, y :: ys, h => by
    simp only [equalL, Bool.and_eq_true, equalL_all xs ys (by simpa using h)]
    constructor
    · rintro ⟨h1, h2⟩ j a b ha hb
      cases j with
      | zero => simp at ha hb; subst ha; subst hb; exact h1
      | succ j => exact h2 j a b (by simpa using ha) (by simpa using hb)
    · intro h
      exact ⟨h 0 x y rfl rfl, fun j a b ha hb => h (j + 1) a b (by simpa using ha) (by simpa using hb)⟩
structure EqualI (ks ks' : List Ty) where
  i : Nat
  hi : i ≤ ks.length
  h : ∀ (j : Nat), j < i → ∀ x y, ks[j]? = some x → ks'[j]? = some y → equalF x y = true

set_option maxRecDepth 10000 in
theorem equal_call (a : Ty) : ∀ b, tright a = true → tright b = true → ACall Tryd.prog 59 [a.val, b.val] [] (fun o σ => o = .ret (.c (.d (.bool (equalF a b)))) ∧ σ = []) := by
  induction a using Ty.ind with
  | _ k ks ih =>
  rintro ⟨k', ks'⟩ ha hb
  refine ACall.body tab_ok (ρ := 0) (N := 30) Tryd.func59 rfl rfl rfl rfl rfl ?_
  repeat' first | refine AW.seq ?_ | refine AW.block ?_ | (refine (_root_.id : AW _ _ _ (.region 6 _ true) _ _ → _) ?_; refine AW.draw (id := 6) tab_ok mixed [0, 1, 2, 3, 4, 5, 6, 7, 8, 9, 10, 11] (by kernel_rfl) ?_; conv => whnf) | ((first | refine AW.region tab_ok ?_ | refine AW.cond ?_ | refine AW.skip ?_ | refine AW.ret ?_ | refine AW.exit ?_); conv => whnf) | ((first | refine And.intro (@rfl Val _) ?_ | refine And.intro (by decide) ?_ | refine cs (fun _ => ?_) (fun _ => ?_)) <;> conv => whnf)
  · rename_i h
    refine ⟨?_, rfl⟩
    simp at h
    simp [oneOf, equalF, h]
  · rename_i h
    have e : k = k' := by simpa using h
    subst e
    have hkk : ks.length = ks'.length := by
      have := tright_len ha
      have := tright_len hb
      omega
    have hle := parts_le k
    have hl1 := tright_len ha
    refine AW.loop (ι := EqualI ks ks') (fun x => ⟨30, [(14, .c (.d (.int .i64 x.i))), (13, .c (.d (.int .i64 (Ty.rows ks).length))), (2, .c (.ptr 0 0)), (3, .c (.ptr 1 0))], [.var [.d (.int .i8 k), .d (.sl 0 2 (Ty.rows ks))], .var [.d (.int .i8 k), .d (.sl 0 2 (Ty.rows ks'))]], []⟩)
      (fun x => ks.length - x.i) ⟨0, Nat.zero_le _, fun j h => by omega⟩ 2 (fun _ => rfl) (Nat.le_of_ble_eq_true rfl) ⟨⟨rfl, rfl, rfl, rfl, trivial⟩, rfl, rfl, ⟨[], rfl⟩, rfl⟩ (fun x => ?_)
    obtain ⟨i, hi, hj⟩ := x
    repeat' first | refine AW.seq ?_ | refine AW.block ?_ | (refine (_root_.id : AW _ _ _ (.region 6 _ true) _ _ → _) ?_; refine AW.draw (id := 6) tab_ok mixed [0, 1, 2, 3, 4, 5, 6, 7, 8, 9, 10, 11] (by kernel_rfl) ?_; conv => whnf) | ((first | refine AW.region tab_ok ?_ | refine AW.cond ?_ | refine AW.skip ?_ | refine AW.ret ?_ | refine AW.exit ?_); conv => whnf) | ((first | refine And.intro (@rfl Val _) ?_ | refine And.intro (by decide) ?_ | refine cs (fun _ => ?_) (fun _ => ?_)) <;> conv => whnf)
    · rename_i h1
      simp only [rows_length] at h1 ⊢
      have := of_decide_eq_true h1
      refine ⟨by omega, fun row hrow => ?_⟩
      obtain ⟨⟨kx, kxs⟩, ht, rfl⟩ := rows_get ks i row (by simpa using hrow)
      have hlt : i < ks.length := (List.getElem?_eq_some_iff.1 ht).1
      have hm := List.mem_of_getElem? ht
      conv => whnf
      repeat' first | refine AW.seq ?_ | refine AW.block ?_ | (refine (_root_.id : AW _ _ _ (.region 6 _ true) _ _ → _) ?_; refine AW.draw (id := 6) tab_ok mixed [0, 1, 2, 3, 4, 5, 6, 7, 8, 9, 10, 11] (by kernel_rfl) ?_; conv => whnf) | ((first | refine AW.region tab_ok ?_ | refine AW.cond ?_ | refine AW.skip ?_ | refine AW.ret ?_ | refine AW.exit ?_); conv => whnf) | ((first | refine And.intro (@rfl Val _) ?_ | refine And.intro (by decide) ?_ | refine cs (fun _ => ?_) (fun _ => ?_)) <;> conv => whnf)
      simp only [rows_length]
      refine ⟨by omega, fun row hrow => ?_⟩
      obtain ⟨⟨ky, kys⟩, hu, rfl⟩ := rows_get ks' i row (by simpa using hrow)
      have hm' := List.mem_of_getElem? hu
      conv => whnf
      repeat' first | refine AW.seq ?_ | refine AW.block ?_ | (refine (_root_.id : AW _ _ _ (.region 6 _ true) _ _ → _) ?_; refine AW.draw (id := 6) tab_ok mixed [0, 1, 2, 3, 4, 5, 6, 7, 8, 9, 10, 11] (by kernel_rfl) ?_; conv => whnf) | ((first | refine AW.region tab_ok ?_ | refine AW.cond ?_ | refine AW.skip ?_ | refine AW.ret ?_ | refine AW.exit ?_); conv => whnf) | (refine (ih _ hm _ (tright_kid ha hm) (tright_kid hb hm')).mono ?_; rintro _ _ ⟨rfl, rfl⟩; conv => whnf) | ((first | refine And.intro (@rfl Val _) ?_ | refine And.intro (by decide) ?_ | refine cs (fun _ => ?_) (fun _ => ?_)) <;> conv => whnf)
      · rename_i h2
        refine ⟨?_, rfl⟩
        have h2 : equalF (Ty.node kx kxs) (Ty.node ky kys) = false := by simpa using h2
        have : equalL ks ks' = false := by
          cases hc : equalL ks ks' with
          | false => rfl
          | true => rw [(equalL_all ks ks' hkk).1 hc i _ _ ht hu] at h2; cases h2
        simp [oneOf, equalF, this]
      · rename_i h2
        have h2 : equalF (Ty.node kx kxs) (Ty.node ky kys) = true := by simpa using h2
        rw [wrap64 (x := (i : Int) + 1) (by omega) (by omega)]
        refine ⟨⟨i + 1, hlt, fun j h x y hx hy => ?_⟩, ⟨⟨rfl, rfl, rfl, rfl, trivial⟩, rfl, rfl, ⟨[], rfl⟩, rfl⟩, show ks.length - (i + 1) < ks.length - i by omega⟩
        by_cases e : j = i
        · subst e; rw [ht] at hx; rw [hu] at hy; cases hx; cases hy; exact h2
        · exact hj j (by omega) x y hx hy
    · rename_i h1
      simp only [rows_length] at h1
      have := of_decide_eq_false h1
      obtain rfl : i = ks.length := by omega
      refine ⟨?_, rfl⟩
      have : equalL ks ks' = true := (equalL_all ks ks' hkk).2 fun j x y hx hy => hj j (List.getElem?_eq_some_iff.1 hx).1 x y hx hy
      simp [oneOf, equalF, this]
def sameS (a b : Ty) : Bool := decide (tcheck a = 0) && decide (tcheck b = 0) && equalF a b
set_option maxRecDepth 10000 in
theorem Same_call (a b : Ty) : ACall Tryd.prog 35 [a.val, b.val] [] (fun o σ => o = .ret (.c (.d (.bool (sameS a b)))) ∧ σ = []) := by
  obtain ⟨k, ks⟩ := a
  obtain ⟨k', ks'⟩ := b
  refine ACall.body tab_ok (ρ := 0) (N := 18) Tryd.func35 rfl rfl rfl rfl rfl ?_
  repeat' first | refine AW.seq ?_ | refine AW.block ?_ | ((first | refine AW.region tab_ok ?_ | refine AW.cond ?_ | refine AW.skip ?_ | refine AW.ret ?_ | refine AW.exit ?_); conv => whnf) | ((first | refine (check_call (.node k ks)).mono ?_ | refine (check_call (.node k' ks')).mono ?_); rintro _ _ ⟨rfl, rfl⟩; conv => whnf) | ((first | refine And.intro (@rfl Val _) ?_ | refine And.intro (by decide) ?_ | refine cs (fun _ => ?_) (fun _ => ?_)) <;> conv => whnf)
  · rename_i h1 h2
    have h1 : tcheck (.node k ks) = 0 := by simpa using h1
    have h2 : tcheck (.node k' ks') = 0 := by simpa using h2
    refine (equal_call (.node k ks) (.node k' ks') (tcheck_right h1) (tcheck_right h2)).mono ?_
    rintro _ _ ⟨rfl, rfl⟩
    conv => whnf
    repeat' first | refine AW.seq ?_ | refine AW.block ?_ | ((first | refine AW.region tab_ok ?_ | refine AW.cond ?_ | refine AW.skip ?_ | refine AW.ret ?_ | refine AW.exit ?_); conv => whnf) | ((first | refine And.intro (@rfl Val _) ?_ | refine And.intro (by decide) ?_ | refine cs (fun _ => ?_) (fun _ => ?_)) <;> conv => whnf)
    refine ⟨?_, rfl⟩
    simp [oneOf, sameS, h1, h2]
  · rename_i h1 h2
    refine ⟨?_, rfl⟩
    simp at h1 h2
    simp [oneOf, sameS, h1, h2]
  · rename_i h1
    refine ⟨?_, rfl⟩
    simp at h1
    simp [oneOf, sameS, h1]

/-! ### An order -/
end Go.Proofs.YtmaokphbfjpodaaDoor.E

/- Walks: Same of types in the document's answer; same of terms, both. No conditions. -/
set_option linter.unusedVariables false
set_option linter.unusedSimpArgs false
namespace Go.Proofs.YtmaokphbfjpodaaDoor.E
open Go

/-! ### Same of types, the document's -/
/-! ### Same of terms -/
/-- Two terms are the same, but for their kids. -/
def ownSame : Tm → Tm → Bool
  | .node k name arg num tk tks uk uks label place ks, .node k' name' arg' num' tk' tks' uk' uks' label' place' ks' =>
    decide (k = k') && (!(nameK k || decide (k = 15)) || decide (name = name')) && (!argK k || decide (arg = arg')) && (!decide (k = 1) || decide (num = num'))
      && (!decide (k = 17) || decide (label = label')) && (!typeK k || sameS (.node tk tks) (.node tk' tks')) && (!toK k || sameS (.node uk uks) (.node uk' uks'))
mutual
def tmsame : Tm → Tm → Bool
  | .node k name arg num tk tks uk uks label place ks, .node k' name' arg' num' tk' tks' uk' uks' label' place' ks' =>
    ownSame (.node k name arg num tk tks uk uks label place ks) (.node k' name' arg' num' tk' tks' uk' uks' label' place' ks') && tmsames ks ks'
def tmsames : List Tm → List Tm → Bool
  | [], _ => true
  | _ :: _, [] => false
  | a :: l, b :: l' => tmsame a b && tmsames l l'
end
theorem tmsames_all : ∀ (ks ks' : List Tm), ks.length = ks'.length → (tmsames ks ks' = true ↔ ∀ (j : Nat) x y, ks[j]? = some x → ks'[j]? = some y → tmsame x y = true)
  | [], [], _ => by simp [tmsames]
  | a :: l, b :: l', h => by
    have ih := tmsames_all l l' (by simpa using h)
    simp only [tmsames, Bool.and_eq_true, ih]
    constructor
    · rintro ⟨h1, h2⟩ j x y hx hy
      cases j with
      | zero => simp at hx hy; subst hx; subst hy; exact h1
      | succ j => simp only [List.getElem?_cons_succ] at hx hy; exact h2 j x y hx hy
    · intro h
      exact ⟨h 0 a b rfl rfl, fun j x y hx hy => h (j + 1) x y (by simpa using hx) (by simpa using hy)⟩
theorem tmright_len {k name arg num tk tks uk uks label place ks} (h : tmright (.node k name arg num tk tks uk uks label place ks) = true) : kidsK k = ks.length := by
  simp [tmright, ownRight] at h
  exact h.1.1.1.1.1.1.1
theorem tmright_kid {k name arg num tk tks uk uks label place ks} (h : tmright (.node k name arg num tk tks uk uks label place ks) = true) {t : Tm} (ht : t ∈ ks) : tmright t = true := by
  simp only [tmright, Bool.and_eq_true] at h
  exact (tmrights_all ks).1 h.2 t ht
theorem kidsK_le (k : Int) : kidsK k ≤ 3 := by
  unfold kidsK
  repeat (split <;> try omega)
theorem tmright_valid {k name arg num tk tks uk uks label place ks} (h : tmright (.node k name arg num tk tks uk uks label place ks) = true) : validK k = true := by
  have h := tmright_len h
  cases hv : validK k with
  | true => rfl
  | false =>
    have hk : kidsK k = -1 := by simp [validK] at hv; unfold kidsK; repeat rw [if_neg (by omega)]
    omega
structure TmSameI (ks ks' : List Tm) where
  i : Nat
  hi : i ≤ ks.length
  h : ∀ (j : Nat), j < i → ∀ x y, ks[j]? = some x → ks'[j]? = some y → tmsame x y = true

noncomputable def rest79 : Code := match Tryd.f16.body with
  | some (.seq _ (.seq _ (.seq _ (.seq _ c)))) => c
  | _ => .skip
set_option maxRecDepth 10000 in
theorem same_rest (k : Int) (name arg : ByteArray) (num tk : Int) (tks : List Ty) (uk : Int) (uks : List Ty) (label place : Int) (ks : List Tm) (k' : Int) (name' arg' : ByteArray) (num' tk' : Int) (tks' : List Ty) (uk' : Int) (uks' : List Ty) (label' place' : Int) (ks' : List Tm) (s0 : Int) (b1 b2 b3 b4 b5 b6 b7 : Bool) (hkk : ks.length = ks'.length) (hlen : ks.length ≤ 3)
    (ih : ∀ x ∈ ks, ∀ y ∈ ks', ACall Tryd.prog 16 [.c (.d (.rp 0 x.cells)), .c (.d (.rp 0 y.cells))] [] (fun o σ => o = .ret (.c (.d (.bool (tmsame x y)))) ∧ σ = [])) :
    AW Tryd.prog tab 0 rest79 ⟨142, [(0, .c (.d (.rp 0 (Tm.node k name arg num tk tks uk uks label place ks).cells))), (1, .c (.d (.rp 0 (Tm.node k' name' arg' num' tk' tks' uk' uks' label' place' ks').cells)))], [.var [.d (.int .i64 s0), .d (.bool b1), .d (.bool b2), .d (.bool b3), .d (.bool b4), .d (.bool b5), .d (.bool b6), .d (.bool b7)]], []⟩
      (afin tab 0 16 [.tmp 4] 0 (fun o σ => o = .ret (.c (.d (.bool (tmsames ks ks')))) ∧ σ = [])) := by
  repeat' first | refine AW.seq ?_ | refine AW.block ?_ | (refine (_root_.id : AW _ _ _ (.region 2 _ true) _ _ → _) ?_; refine AW.draw (id := 2) tab_ok mixed [0, 1, 2, 3, 4, 5, 6, 7, 8, 9, 10, 11, 12, 13, 14, 15, 16, 17, 18, 19, 20, 21, 22, 23, 24, 25, 26, 27, 28, 29, 30, 31, 32, 33, 34, 35, 36, 37, 38, 39, 40, 41, 42, 43, 44, 45, 46, 47, 48, 49, 50, 51, 52, 53, 54, 55, 56, 57, 58, 59, 60, 61, 62, 63, 64, 65, 66, 67, 68, 69, 70, 71, 72] (by kernel_rfl) ?_; conv => whnf) | (refine (_root_.id : AW _ _ _ (.region 4 _ true) _ _ → _) ?_; refine AW.draw (id := 4) tab_ok mixed [0, 1, 2, 3, 4, 5, 6, 7, 8, 9, 10, 11, 12, 13, 14, 15, 16, 17, 18, 19, 20, 21, 22, 23, 24, 25, 26, 27, 28, 29] (by kernel_rfl) ?_; conv => whnf) | (refine (_root_.id : AW _ _ _ (.region 9 _ true) _ _ → _) ?_; refine AW.draw (id := 9) tab_ok mixed [0, 1, 2, 3, 4, 5, 6, 7, 8, 9, 10, 11, 12, 13] (by kernel_rfl) ?_; conv => whnf) | ((first | refine AW.region tab_ok ?_ | refine AW.cond ?_ | refine AW.skip ?_ | refine AW.ret ?_ | refine AW.exit ?_); conv => whnf) | ((first | refine And.intro (@rfl Val _) ?_ | refine And.intro (by decide) ?_ | refine cs (fun _ => ?_) (fun _ => ?_)) <;> conv => whnf)
  refine AW.loop (ι := TmSameI ks ks') (fun x => ⟨142, [(124, .c (.d (.int .i64 x.i))), (123, .c (.d (.int .i64 (Tm.rows ks).length))), (0, .c (.d (.rp 0 (Tm.node k name arg num tk tks uk uks label place ks).cells))), (1, .c (.d (.rp 0 (Tm.node k' name' arg' num' tk' tks' uk' uks' label' place' ks').cells)))], [.var [.d (.int .i64 s0), .d (.bool b1), .d (.bool b2), .d (.bool b3), .d (.bool b4), .d (.bool b5), .d (.bool b6), .d (.bool b7)]], []⟩)
    (fun x => ks.length - x.i) ⟨0, Nat.zero_le _, fun j h => by omega⟩ 1 (fun _ => rfl) (Nat.le_of_ble_eq_true rfl) ⟨⟨rfl, rfl, rfl, rfl, trivial⟩, rfl, rfl, ⟨[], rfl⟩, rfl⟩ (fun x => ?_)
  obtain ⟨i, hi, hj⟩ := x
  repeat' first | refine AW.seq ?_ | refine AW.block ?_ | (refine (_root_.id : AW _ _ _ (.region 2 _ true) _ _ → _) ?_; refine AW.draw (id := 2) tab_ok mixed [0, 1, 2, 3, 4, 5, 6, 7, 8, 9, 10, 11, 12, 13, 14, 15, 16, 17, 18, 19, 20, 21, 22, 23, 24, 25, 26, 27, 28, 29, 30, 31, 32, 33, 34, 35, 36, 37, 38, 39, 40, 41, 42, 43, 44, 45, 46, 47, 48, 49, 50, 51, 52, 53, 54, 55, 56, 57, 58, 59, 60, 61, 62, 63, 64, 65, 66, 67, 68, 69, 70, 71, 72] (by kernel_rfl) ?_; conv => whnf) | (refine (_root_.id : AW _ _ _ (.region 4 _ true) _ _ → _) ?_; refine AW.draw (id := 4) tab_ok mixed [0, 1, 2, 3, 4, 5, 6, 7, 8, 9, 10, 11, 12, 13, 14, 15, 16, 17, 18, 19, 20, 21, 22, 23, 24, 25, 26, 27, 28, 29] (by kernel_rfl) ?_; conv => whnf) | (refine (_root_.id : AW _ _ _ (.region 9 _ true) _ _ → _) ?_; refine AW.draw (id := 9) tab_ok mixed [0, 1, 2, 3, 4, 5, 6, 7, 8, 9, 10, 11, 12, 13] (by kernel_rfl) ?_; conv => whnf) | ((first | refine AW.region tab_ok ?_ | refine AW.cond ?_ | refine AW.skip ?_ | refine AW.ret ?_ | refine AW.exit ?_); conv => whnf) | ((first | refine And.intro (@rfl Val _) ?_ | refine And.intro (by decide) ?_ | refine cs (fun _ => ?_) (fun _ => ?_)) <;> conv => whnf)
  · rename_i h1
    simp only [trows_length] at h1 ⊢
    have := of_decide_eq_true h1
    refine ⟨by omega, fun row hrow => ?_⟩
    obtain ⟨x, ht, rfl⟩ := trows_get ks i row (by simpa using hrow)
    have hlt : i < ks.length := (List.getElem?_eq_some_iff.1 ht).1
    have hm := List.mem_of_getElem? ht
    conv => whnf
    repeat' first | refine AW.seq ?_ | refine AW.block ?_ | (refine (_root_.id : AW _ _ _ (.region 2 _ true) _ _ → _) ?_; refine AW.draw (id := 2) tab_ok mixed [0, 1, 2, 3, 4, 5, 6, 7, 8, 9, 10, 11, 12, 13, 14, 15, 16, 17, 18, 19, 20, 21, 22, 23, 24, 25, 26, 27, 28, 29, 30, 31, 32, 33, 34, 35, 36, 37, 38, 39, 40, 41, 42, 43, 44, 45, 46, 47, 48, 49, 50, 51, 52, 53, 54, 55, 56, 57, 58, 59, 60, 61, 62, 63, 64, 65, 66, 67, 68, 69, 70, 71, 72] (by kernel_rfl) ?_; conv => whnf) | (refine (_root_.id : AW _ _ _ (.region 4 _ true) _ _ → _) ?_; refine AW.draw (id := 4) tab_ok mixed [0, 1, 2, 3, 4, 5, 6, 7, 8, 9, 10, 11, 12, 13, 14, 15, 16, 17, 18, 19, 20, 21, 22, 23, 24, 25, 26, 27, 28, 29] (by kernel_rfl) ?_; conv => whnf) | (refine (_root_.id : AW _ _ _ (.region 9 _ true) _ _ → _) ?_; refine AW.draw (id := 9) tab_ok mixed [0, 1, 2, 3, 4, 5, 6, 7, 8, 9, 10, 11, 12, 13] (by kernel_rfl) ?_; conv => whnf) | ((first | refine AW.region tab_ok ?_ | refine AW.cond ?_ | refine AW.skip ?_ | refine AW.ret ?_ | refine AW.exit ?_); conv => whnf) | ((first | refine And.intro (@rfl Val _) ?_ | refine And.intro (by decide) ?_ | refine cs (fun _ => ?_) (fun _ => ?_)) <;> conv => whnf)
    simp only [trows_length]
    refine ⟨by omega, fun row hrow => ?_⟩
    obtain ⟨y, hu, rfl⟩ := trows_get ks' i row (by simpa using hrow)
    have hm' := List.mem_of_getElem? hu
    have hc := ih _ hm _ hm'
    have hno : tmsame x y = false → tmsames ks ks' = false := fun h2 => by
      cases hc : tmsames ks ks' with
      | false => rfl
      | true => rw [(tmsames_all ks ks' hkk).1 hc i _ _ ht hu] at h2; cases h2
    have hye : tmsame x y = true → ∀ j, j < i + 1 → ∀ x y, ks[j]? = some x → ks'[j]? = some y → tmsame x y = true := fun h2 j h x y hx hy => by
      by_cases e : j = i
      · subst e; rw [ht] at hx; rw [hu] at hy; cases hx; cases hy; exact h2
      · exact hj j (by omega) x y hx hy
    generalize tmsame x y = bb at hc hno hye
    conv => whnf
    repeat' first | refine AW.seq ?_ | refine AW.block ?_ | (refine (_root_.id : AW _ _ _ (.region 2 _ true) _ _ → _) ?_; refine AW.draw (id := 2) tab_ok mixed [0, 1, 2, 3, 4, 5, 6, 7, 8, 9, 10, 11, 12, 13, 14, 15, 16, 17, 18, 19, 20, 21, 22, 23, 24, 25, 26, 27, 28, 29, 30, 31, 32, 33, 34, 35, 36, 37, 38, 39, 40, 41, 42, 43, 44, 45, 46, 47, 48, 49, 50, 51, 52, 53, 54, 55, 56, 57, 58, 59, 60, 61, 62, 63, 64, 65, 66, 67, 68, 69, 70, 71, 72] (by kernel_rfl) ?_; conv => whnf) | (refine (_root_.id : AW _ _ _ (.region 4 _ true) _ _ → _) ?_; refine AW.draw (id := 4) tab_ok mixed [0, 1, 2, 3, 4, 5, 6, 7, 8, 9, 10, 11, 12, 13, 14, 15, 16, 17, 18, 19, 20, 21, 22, 23, 24, 25, 26, 27, 28, 29] (by kernel_rfl) ?_; conv => whnf) | (refine (_root_.id : AW _ _ _ (.region 9 _ true) _ _ → _) ?_; refine AW.draw (id := 9) tab_ok mixed [0, 1, 2, 3, 4, 5, 6, 7, 8, 9, 10, 11, 12, 13] (by kernel_rfl) ?_; conv => whnf) | ((first | refine AW.region tab_ok ?_ | refine AW.cond ?_ | refine AW.skip ?_ | refine AW.ret ?_ | refine AW.exit ?_); conv => whnf) | (refine (hc).mono ?_; rintro _ _ ⟨rfl, rfl⟩; conv => whnf) | ((first | refine And.intro (@rfl Val _) ?_ | refine And.intro (by decide) ?_ | refine cs (fun _ => ?_) (fun _ => ?_)) <;> conv => whnf)
    · rename_i h2
      have h2 : bb = false := by simpa using h2
      have := hno h2
      exact ⟨outb this.symm, rfl⟩
    · rename_i h2
      have h2 : bb = true := by simpa using h2
      rw [wrap64 (x := (i : Int) + 1) (by omega) (by omega)]
      exact ⟨⟨i + 1, hlt, hye h2⟩, ⟨⟨rfl, rfl, rfl, rfl, trivial⟩, rfl, rfl, ⟨[], rfl⟩, rfl⟩, show ks.length - (i + 1) < ks.length - i by omega⟩
  · rename_i h1
    simp only [trows_length] at h1
    have := of_decide_eq_false h1
    obtain rfl : i = ks.length := by omega
    have : tmsames ks ks' = true := (tmsames_all ks ks' hkk).2 fun j x y hx hy => hj j (List.getElem?_eq_some_iff.1 hx).1 x y hx hy
    exact ⟨outb this.symm, rfl⟩
set_option maxRecDepth 10000 in
set_option maxHeartbeats 4000000 in
theorem tmsame_call (a : Tm) : ∀ b, tmright a = true → tmright b = true → ACall Tryd.prog 16 [.c (.d (.rp 0 a.cells)), .c (.d (.rp 0 b.cells))] [] (fun o σ => o = .ret (.c (.d (.bool (tmsame a b)))) ∧ σ = []) := by
  induction a using Tm.ind with
  | _ k name arg num tk tks uk uks label place ks ih =>
  rintro ⟨k', name', arg', num', tk', tks', uk', uks', label', place', ks'⟩ ha hb
  have ih' : ∀ x ∈ ks, ∀ y ∈ ks', ACall Tryd.prog 16 [.c (.d (.rp 0 x.cells)), .c (.d (.rp 0 y.cells))] [] (fun o σ => o = .ret (.c (.d (.bool (tmsame x y)))) ∧ σ = []) := fun x hx y hy => ih x hx y (tmright_kid ha hx) (tmright_kid hb hy)
  have la := tmright_len ha
  have lb := tmright_len hb
  have le := kidsK_le k
  have fin : ∀ (s0 : Int) (b1 b2 b3 b4 b5 b6 b7 : Bool), ownSame (.node k name arg num tk tks uk uks label place ks) (.node k' name' arg' num' tk' tks' uk' uks' label' place' ks') = true → ∀ env, get env 0 = .c (.d (.rp 0 (Tm.node k name arg num tk tks uk uks label place ks).cells)) → get env 1 = .c (.d (.rp 0 (Tm.node k' name' arg' num' tk' tks' uk' uks' label' place' ks').cells)) →
      AW Tryd.prog tab 0 rest79 ⟨142, env, [.var [.d (.int .i64 s0), .d (.bool b1), .d (.bool b2), .d (.bool b3), .d (.bool b4), .d (.bool b5), .d (.bool b6), .d (.bool b7)]], []⟩ (afin tab 0 16 Tryd.f16.results.toList ([] : List AObj).length (fun o σ => o = .ret (.c (.d (.bool (tmsame (.node k name arg num tk tks uk uks label place ks) (.node k' name' arg' num' tk' tks' uk' uks' label' place' ks'))))) ∧ σ = [])) := fun s0 b1 b2 b3 b4 b5 b6 b7 ho env g0 g1 => by
    have e : tmsame (.node k name arg num tk tks uk uks label place ks) (.node k' name' arg' num' tk' tks' uk' uks' label' place' ks') = tmsames ks ks' := by simp [tmsame, ho]
    have ek : k = k' := by simp only [ownSame, Bool.and_eq_true, decide_eq_true_eq] at ho; exact ho.1.1.1.1.1.1
    rw [e]
    refine AW.fits ?_ ?_ (same_rest k name arg num tk tks uk uks label place ks k' name' arg' num' tk' tks' uk' uks' label' place' ks' s0 b1 b2 b3 b4 b5 b6 b7 (by subst ek; omega) (by omega) ih')
    · exact ⟨⟨g0, g1, trivial⟩, rfl, rfl, ⟨[], rfl⟩, rfl⟩
    · rfl
  have c1 := of_call k
  have hv := tmright_valid ha
  clear ih ih' ha hb la lb le
  rcases kinds k hv with rfl | rfl | rfl | rfl | rfl | rfl | rfl | rfl | rfl | rfl | rfl | rfl | rfl | rfl | rfl | rfl | rfl | rfl
  all_goals
    refine ACall.body tab_ok (ρ := 0) (N := 142) Tryd.func16 rfl rfl rfl rfl rfl ?_
    repeat' first | (refine fin _ _ _ _ _ _ _ _ ?_ _ rfl rfl) | refine AW.seq ?_ | refine AW.block ?_ | (refine (_root_.id : AW _ _ _ (.region 2 _ true) _ _ → _) ?_; refine AW.draw (id := 2) tab_ok mixed [0, 1, 2, 3, 4, 5, 6, 7, 8, 9, 10, 11, 12, 13, 14, 15, 16, 17, 18, 19, 20, 21, 22, 23, 24, 25, 26, 27, 28, 29, 30, 31, 32, 33, 34, 35, 36, 37, 38, 39, 40, 41, 42, 43, 44, 45, 46, 47, 48, 49, 50, 51, 52, 53, 54, 55, 56, 57, 58, 59, 60, 61, 62, 63, 64, 65, 66, 67, 68, 69, 70, 71, 72] (by kernel_rfl) ?_; conv => whnf) | (refine (_root_.id : AW _ _ _ (.region 4 _ true) _ _ → _) ?_; refine AW.draw (id := 4) tab_ok mixed [0, 1, 2, 3, 4, 5, 6, 7, 8, 9, 10, 11, 12, 13, 14, 15, 16, 17, 18, 19, 20, 21, 22, 23, 24, 25, 26, 27, 28, 29] (by kernel_rfl) ?_; conv => whnf) | (refine (_root_.id : AW _ _ _ (.region 9 _ true) _ _ → _) ?_; refine AW.draw (id := 9) tab_ok mixed [0, 1, 2, 3, 4, 5, 6, 7, 8, 9, 10, 11, 12, 13] (by kernel_rfl) ?_; conv => whnf) | ((first | refine AW.region tab_ok ?_ | refine AW.cond ?_ | refine AW.skip ?_ | refine AW.ret ?_ | refine AW.exit ?_); conv => whnf) | ((first | refine (c1).mono ?_ | refine (Same_call (.node tk tks) (.node tk' tks')).mono ?_ | refine (Same_call (.node uk uks) (.node uk' uks')).mono ?_); rintro _ _ ⟨rfl, rfl⟩; conv => whnf) | ((first | refine And.intro (@rfl Val _) ?_ | refine And.intro (by decide) ?_ | refine cs (fun _ => ?_) (fun _ => ?_)) <;> conv => whnf)
  all_goals clear c1 fin hv
  all_goals first
    | (refine ⟨outb ?_, rfl⟩
       simp only [tmsame, ownSame]
       try simp [kidsK, validK, nameK, argK, typeK, toK, trows_length] at *
       try simp_all
       done)
    | (simp only [ownSame]
       try simp [kidsK, validK, nameK, argK, typeK, toK, trows_length] at *
       try simp_all
       done)
    | trace_state
end Go.Proofs.YtmaokphbfjpodaaDoor.E

/- Walks: same of terms in the document's answer. No conditions. -/
set_option linter.unusedVariables false
set_option linter.unusedSimpArgs false
namespace Go.Proofs.YtmaokphbfjpodaaDoor.E
open Go

def sameT (a b : Tm) : Bool := decide (tmcheck a = 0) && decide (tmcheck b = 0) && tmsame a b
theorem tmcheck_right {t : Tm} (h : tmcheck t = 0) : tmright t = true := by
  unfold tmcheck at h
  split at h
  · omega
  · split at h
    · omega
    · split at h
      · assumption
      · omega
set_option maxRecDepth 10000 in
theorem tSame_call (a b : Tm) : ACall Tryd.prog 9 [a.val, b.val] [] (fun o σ => o = .ret (.c (.d (.bool (sameT a b)))) ∧ σ = []) := by
  have c1 := tmCheck_call a
  have c2 := tmCheck_call b
  have c3 : tmcheck a = 0 → tmcheck b = 0 → ACall Tryd.prog 16 [.c (.d (.rp 0 a.cells)), .c (.d (.rp 0 b.cells))] [] (fun o σ => o = .ret (.c (.d (.bool (tmsame a b)))) ∧ σ = []) := fun h1 h2 => tmsame_call a b (tmcheck_right h1) (tmcheck_right h2)
  have e : sameT a b = (decide (tmcheck a = 0) && decide (tmcheck b = 0) && tmsame a b) := rfl
  rw [e]
  generalize tmcheck a = ca at *
  generalize tmcheck b = cb at *
  generalize tmsame a b = ss at *
  obtain ⟨k, name, arg, num, tk, tks, uk, uks, label, place, ks⟩ := a
  obtain ⟨k', name', arg', num', tk', tks', uk', uks', label', place', ks'⟩ := b
  refine ACall.body tab_ok (ρ := 0) (N := 16) Tryd.func9 rfl rfl rfl rfl rfl ?_
  repeat' first | refine AW.seq ?_ | refine AW.block ?_ | ((first | refine AW.region tab_ok ?_ | refine AW.cond ?_ | refine AW.skip ?_ | refine AW.ret ?_ | refine AW.exit ?_); conv => whnf) | ((first | refine (c1).mono ?_ | refine (c2).mono ?_); rintro _ _ ⟨rfl, rfl⟩; conv => whnf) | ((first | refine And.intro (@rfl Val _) ?_ | refine And.intro (by decide) ?_ | refine cs (fun _ => ?_) (fun _ => ?_)) <;> conv => whnf)
  · rename_i h1 h2
    have h1 : ca = 0 := by simpa using h1
    have h2 : cb = 0 := by simpa using h2
    refine (c3 h1 h2).mono ?_
    rintro _ _ ⟨rfl, rfl⟩
    conv => whnf
    repeat' first | refine AW.seq ?_ | refine AW.block ?_ | ((first | refine AW.region tab_ok ?_ | refine AW.cond ?_ | refine AW.skip ?_ | refine AW.ret ?_ | refine AW.exit ?_); conv => whnf) | ((first | refine And.intro (@rfl Val _) ?_ | refine And.intro (by decide) ?_ | refine cs (fun _ => ?_) (fun _ => ?_)) <;> conv => whnf)
    exact ⟨outb (by simp [h1, h2]), rfl⟩
  · rename_i h1 h2
    simp at h1 h2
    exact ⟨outb (by simp [h1, h2]), rfl⟩
  · rename_i h1
    simp at h1
    exact ⟨outb (by simp [h1]), rfl⟩
end Go.Proofs.YtmaokphbfjpodaaDoor.E

/- Walks: agree of both. No conditions. -/
set_option linter.unusedVariables false
set_option linter.unusedSimpArgs false
namespace Go.Proofs.YtmaokphbfjpodaaDoor.E
open Go

end Go.Proofs.YtmaokphbfjpodaaDoor.E

/- Walks: meet of both. No conditions. -/
set_option linter.unusedVariables false
set_option linter.unusedSimpArgs false
namespace Go.Proofs.YtmaokphbfjpodaaDoor.E
open Go

/-! ### order.meet -/
end Go.Proofs.YtmaokphbfjpodaaDoor.E

/- Walks: Meet, kind, met; the law OrderMeet. No conditions. -/
set_option linter.unusedVariables false
set_option linter.unusedSimpArgs false
namespace Go.Proofs.YtmaokphbfjpodaaDoor.E
open Go

/-! ### kind, of a type and itself -/
end Go.Proofs.YtmaokphbfjpodaaDoor.E

/- Walks: kind, Whole of a thing and itself; whole. No conditions. -/
set_option linter.unusedVariables false
set_option linter.unusedSimpArgs false
namespace Go.Proofs.YtmaokphbfjpodaaDoor.E
open Go

/-! ### whole -/
end Go.Proofs.YtmaokphbfjpodaaDoor.E

/- Walks: bare of terms, both. No conditions. -/
set_option linter.unusedVariables false
set_option linter.unusedSimpArgs false
namespace Go.Proofs.YtmaokphbfjpodaaDoor.E
open Go

end Go.Proofs.YtmaokphbfjpodaaDoor.E

/- Walks: order.each, Has. No conditions. -/
set_option linter.unusedVariables false
set_option linter.unusedSimpArgs false
namespace Go.Proofs.YtmaokphbfjpodaaDoor.E
open Go

/-! ### Has -/
/-! ### each -/
end Go.Proofs.YtmaokphbfjpodaaDoor.E

/- The parser in plain Lean: words, types, terms. No conditions. -/
set_option linter.unusedVariables false
set_option linter.unusedSimpArgs false
namespace Go.Proofs.YtmaokphbfjpodaaDoor.E
open Go

structure Wd where
  kind : Int
  text : ByteArray
  num : Int
  place : Int
def Wd.cells (w : Wd) : List DV := [.int .i8 w.kind, .str w.text, .int .i64 w.num, .int .i64 w.place]
def wrows (l : List Wd) : List (List DV) := l.map Wd.cells
theorem wrows_len (l : List Wd) : (wrows l).length = l.length := by simp [wrows]
/-- What a reader tells: something and where it goes on, or a fault. -/
inductive PR (α : Type) where
  | ok (x : α) (j : Nat)
  | bad (e a : Int) (w : ByteArray)
def bindP {α β : Type} (p : PR α) (f : α → Nat → PR β) : PR β := match p with
  | .ok x j => f x j
  | .bad e a w => .bad e a w
@[simp] theorem bindP_ok {α β : Type} (x : α) (j : Nat) (f : α → Nat → PR β) : bindP (.ok x j) f = f x j := rfl
@[simp] theorem bindP_bad {α β : Type} (e a : Int) (w : ByteArray) (f : α → Nat → PR β) : bindP (.bad e a w) f = .bad e a w := rfl
/-- Place and word of what is wrong at a word. -/
def wrongA (l : List Wd) (i : Nat) : Int × ByteArray := match l[i]? with
  | some w => (w.place, w.text)
  | none => match l.getLast? with
    | some w => (IntKind.i64.wrap (w.place + w.text.size), ⟨#[]⟩)
    | none => (0, ⟨#[]⟩)
def wbad {α : Type} (l : List Wd) (i : Nat) : PR α := .bad 40 (wrongA l i).1 (wrongA l i).2
def tkW (l : List Wd) (i : Nat) (k : Int) (s : ByteArray) : Bool := match l[i]? with
  | some w => decide (w.kind = k) && decide (w.text = s)
  | none => false
def placeW (l : List Wd) (i : Nat) : Int := match l[i]? with
  | some w => w.place
  | none => 0

/-! ### Types -/
def tLoop (l : List Wd) (part : Nat → PR Ty) (k : Int) (s : ByteArray) : Nat → Ty → Nat → PR Ty
  | 0, a, i => .ok a i
  | n + 1, a, i => if tkW l i 4 s then bindP (part (i + 1)) fun b j => tLoop l part k s n (.node k [a, b]) j else .ok a i
def tAtom (l : List Wd) (W : Nat → PR Ty) (i : Nat) : PR Ty :=
  if tkW l i 4 ⟨#[63]⟩ then .ok (.node 0 []) (i + 1) else if tkW l i 3 ⟨#[105, 110, 116]⟩ then .ok (.node 1 []) (i + 1) else if tkW l i 3 ⟨#[98, 111, 111, 108]⟩ then .ok (.node 2 []) (i + 1)
  else if tkW l i 4 ⟨#[40]⟩ then bindP (W (i + 1)) fun a j => if tkW l j 4 ⟨#[41]⟩ then .ok a (j + 1) else wbad l j
  else wbad l i
def tLeft (l : List Wd) (part : Nat → PR Ty) (k : Int) (s : ByteArray) (i : Nat) : PR Ty := bindP (part i) fun a j => tLoop l part k s (l.length + 1) a j
def tProd (l : List Wd) (W : Nat → PR Ty) (i : Nat) : PR Ty := tLeft l (tAtom l W) 4 ⟨#[42]⟩ i
def tSum (l : List Wd) (W : Nat → PR Ty) (i : Nat) : PR Ty := tLeft l (tProd l W) 5 ⟨#[43]⟩ i
def tWhole (l : List Wd) : Nat → Nat → PR Ty
  | 0, i => wbad l i
  | n + 1, i => bindP (tSum l (tWhole l n) i) fun a j => if tkW l j 4 ⟨#[45, 62]⟩ then bindP (tWhole l n (j + 1)) fun b q => .ok (.node 3 [a, b]) q else .ok a j
/-- types.Read. -/
def typP (l : List Wd) (i : Nat) : PR Ty := bindP (tWhole l (l.length + 1) i) fun a j => if tcheck a = 0 then .ok a j else .bad (tcheck a) (placeW l i) ⟨#[]⟩

/-! ### Terms -/
def mustP (l : List Wd) (k : Int) (s : ByteArray) (i : Nat) : PR Unit := if tkW l i k s then .ok () (i + 1) else wbad l i
def nameP (l : List Wd) (i : Nat) : PR ByteArray := match l[i]? with
  | some w => if w.kind = 1 then .ok w.text (i + 1) else wbad l i
  | none => wbad l i
def annP (l : List Wd) (i : Nat) : PR (ByteArray × Ty) := bindP (nameP l i) fun x j => bindP (mustP l 4 ⟨#[58]⟩ j) fun _ j => bindP (typP l j) fun a j => .ok (x, a) j
def tn (k : Int) (name arg : ByteArray) (num : Int) (a b : Ty) (p : Int) (ks : List Tm) : Tm := match a, b with
  | .node tk tks, .node uk uks => .node k name arg num tk tks uk uks 0 p ks
def ty0 : Ty := .node 0 []
def s0 : ByteArray := ⟨#[]⟩
section
variable (l : List Wd) (W : Nat → PR Tm)
def isLoop : Nat → Tm → Nat → PR Tm
  | 0, t, i => .ok t i
  | n + 1, t, i => if tkW l i 4 ⟨#[58]⟩ then bindP (typP l (i + 1)) fun a j => isLoop n (tn 16 s0 s0 0 a ty0 (placeW l i) [t]) j else .ok t i
def isOp (ops : List ByteArray) (i : Nat) : Bool := ops.any fun s => tkW l i 4 s
def textW (i : Nat) : ByteArray := match l[i]? with
  | some w => w.text
  | none => s0
def opP (part : Nat → PR Tm) (t : Tm) (i : Nat) : PR Tm := bindP (part (i + 1)) fun u j => .ok (tn 15 (textW l i) s0 0 ty0 ty0 (placeW l i) [t, u]) j
def opLoop (part : Nat → PR Tm) (ops : List ByteArray) : Nat → Tm → Nat → PR Tm
  | 0, t, i => .ok t i
  | n + 1, t, i => if isOp l ops i then bindP (opP l part t i) fun u j => opLoop part ops n u j else .ok t i
def pAtom (i : Nat) : PR Tm := match l[i]? with
  | none => wbad l i
  | some w =>
    if w.kind = 2 then .ok (tn 1 s0 s0 w.num ty0 ty0 w.place []) (i + 1)
    else if w.kind = 1 then .ok (tn 0 w.text s0 0 ty0 ty0 w.place []) (i + 1)
    else if tkW l i 3 ⟨#[116, 114, 117, 101]⟩ then .ok (tn 2 s0 s0 0 ty0 ty0 w.place []) (i + 1)
    else if tkW l i 3 ⟨#[102, 97, 108, 115, 101]⟩ then .ok (tn 3 s0 s0 0 ty0 ty0 w.place []) (i + 1)
    else if tkW l i 4 ⟨#[40]⟩ then bindP (W (i + 1)) fun t j => bindP (mustP l 4 ⟨#[41]⟩ j) fun _ j => .ok t j
    else if tkW l i 4 ⟨#[91]⟩ then bindP (W (i + 1)) fun a j => bindP (mustP l 4 ⟨#[44]⟩ j) fun _ j => bindP (W j) fun b j => bindP (mustP l 4 ⟨#[93]⟩ j) fun _ j => .ok (tn 9 s0 s0 0 ty0 ty0 w.place [a, b]) j
    else wbad l i
def appLoop : Nat → Tm → Nat → PR Tm
  | 0, t, i => .ok t i
  | n + 1, t, i => if tkW l i 4 ⟨#[40]⟩ then bindP (W (i + 1)) fun a j => bindP (mustP l 4 ⟨#[41]⟩ j) fun _ j => appLoop n (tn 6 s0 s0 0 ty0 ty0 (placeW l i) [t, a]) j else .ok t i
def inP (un : Nat → PR Tm) (k p : Int) (i : Nat) : PR Tm := bindP (mustP l 4 ⟨#[123]⟩ i) fun _ j => bindP (typP l j) fun a j => bindP (mustP l 4 ⟨#[125]⟩ j) fun _ j => bindP (un j) fun t j => .ok (tn k s0 s0 0 a ty0 p [t]) j
def numP (p : Int) (i : Nat) : PR Tm := match l[i]? with
  | some w => if w.kind = 2 then .ok (tn 1 s0 s0 (IntKind.i64.wrap (0 - w.num)) ty0 ty0 p []) (i + 1) else wbad l i
  | none => wbad l i
def pUn : Nat → Nat → PR Tm
  | 0, i => wbad l i
  | m + 1, i =>
    if tkW l i 3 ⟨#[102, 115, 116]⟩ then bindP (pUn m (i + 1)) fun t j => .ok (tn 10 s0 s0 0 ty0 ty0 (placeW l i) [t]) j
    else if tkW l i 3 ⟨#[115, 110, 100]⟩ then bindP (pUn m (i + 1)) fun t j => .ok (tn 11 s0 s0 0 ty0 ty0 (placeW l i) [t]) j
    else if tkW l i 3 ⟨#[105, 110, 108]⟩ then inP l (pUn m) 12 (placeW l i) (i + 1)
    else if tkW l i 3 ⟨#[105, 110, 114]⟩ then inP l (pUn m) 13 (placeW l i) (i + 1)
    else if tkW l i 4 ⟨#[45]⟩ then numP l (placeW l i) (i + 1)
    else bindP (pAtom l W i) fun t j => appLoop l W (l.length + 1) t j
def pU (i : Nat) : PR Tm := pUn l W (l.length + 1) i
def pMul (i : Nat) : PR Tm := bindP (pU l W i) fun t j => opLoop l (pU l W) [⟨#[42]⟩, ⟨#[47]⟩] (l.length + 1) t j
def pSum (i : Nat) : PR Tm := bindP (pMul l W i) fun t j => opLoop l (pMul l W) [⟨#[43]⟩, ⟨#[45]⟩] (l.length + 1) t j
def pCmp (i : Nat) : PR Tm := bindP (pSum l W i) fun t j => if isOp l [⟨#[60]⟩, ⟨#[61]⟩] j then opP l (pSum l W) t j else .ok t j
def pIs (i : Nat) : PR Tm := bindP (pCmp l W i) fun t j => isLoop l (l.length + 1) t j
def branchP (i : Nat) : PR (ByteArray × Tm) := bindP (nameP l i) fun x j => bindP (mustP l 4 ⟨#[46]⟩ j) fun _ j => bindP (W j) fun t j => .ok (x, t) j
def lamP (p : Int) (i : Nat) : PR Tm := bindP (annP l i) fun x j => bindP (mustP l 4 ⟨#[46]⟩ j) fun _ j => bindP (W j) fun t j => .ok (tn 4 x.1 s0 0 x.2 ty0 p [t]) j
def letP (p : Int) (i : Nat) : PR Tm := bindP (annP l i) fun x j => bindP (mustP l 4 ⟨#[61]⟩ j) fun _ j => bindP (W j) fun t j => bindP (mustP l 3 ⟨#[105, 110]⟩ j) fun _ j => bindP (W j) fun u j => .ok (tn 7 x.1 s0 0 x.2 ty0 p [t, u]) j
def ifP (p : Int) (i : Nat) : PR Tm := bindP (W i) fun a j => bindP (mustP l 3 ⟨#[116, 104, 101, 110]⟩ j) fun _ j => bindP (W j) fun b j => bindP (mustP l 3 ⟨#[101, 108, 115, 101]⟩ j) fun _ j => bindP (W j) fun c j => .ok (tn 8 s0 s0 0 ty0 ty0 p [a, b, c]) j
def recP (p : Int) (i : Nat) : PR Tm := bindP (nameP l i) fun f j => bindP (mustP l 4 ⟨#[40]⟩ j) fun _ j => bindP (annP l j) fun x j => bindP (mustP l 4 ⟨#[41]⟩ j) fun _ j => bindP (mustP l 4 ⟨#[58]⟩ j) fun _ j => bindP (typP l j) fun b j => bindP (mustP l 4 ⟨#[46]⟩ j) fun _ j => bindP (W j) fun t j => .ok (tn 5 f x.1 0 x.2 b p [t]) j
def caseP (p : Int) (i : Nat) : PR Tm := bindP (W i) fun a j => bindP (mustP l 3 ⟨#[111, 102]⟩ j) fun _ j => bindP (branchP l W j) fun x j => bindP (mustP l 4 ⟨#[124]⟩ j) fun _ j => bindP (branchP l W j) fun y j => .ok (tn 14 x.1 y.1 0 ty0 ty0 p [a, x.2, y.2]) j
def pStep (i : Nat) : PR Tm :=
  if tkW l i 4 ⟨#[92]⟩ then lamP l W (placeW l i) (i + 1)
  else if tkW l i 3 ⟨#[108, 101, 116]⟩ then letP l W (placeW l i) (i + 1)
  else if tkW l i 3 ⟨#[105, 102]⟩ then ifP l W (placeW l i) (i + 1)
  else if tkW l i 3 ⟨#[114, 101, 99]⟩ then recP l W (placeW l i) (i + 1)
  else if tkW l i 3 ⟨#[99, 97, 115, 101]⟩ then caseP l W (placeW l i) (i + 1)
  else pIs l W i
end
def pTerm (l : List Wd) : Nat → Nat → PR Tm
  | 0, i => wbad l i
  | n + 1, i => pStep l (pTerm l n) i
/-- parse.Words at the first word. -/
def wordsP (l : List Wd) : PR Tm := bindP (pTerm l (l.length + 1) 0) fun t j => if tmN t > 8192 then .bad 32 0 s0 else if tmDepth t > 200 then .bad 31 0 s0 else .ok t j
end Go.Proofs.YtmaokphbfjpodaaDoor.E

/- The scanner and the reader of texts in plain Lean. No conditions. -/
set_option linter.unusedVariables false
set_option linter.unusedSimpArgs false
namespace Go.Proofs.YtmaokphbfjpodaaDoor.E
open Go

/-- How many bytes are blanks and remarks (true: in a remark). -/
def skipL : Bool → List UInt8 → Nat
  | _, [] => 0
  | r, c :: l => if c = 10 then 1 + skipL false l else if r = true then 1 + skipL true l else if c = 32 ∨ c = 9 ∨ c = 13 then 1 + skipL false l else if c = 35 then 1 + skipL true l else 0
/-- How many bytes are digits, or letters too. -/
def spanL (letters : Bool) : List UInt8 → Nat
  | [] => 0
  | c :: l => if digitF c.toNat || (letters && letterF c.toNat) then 1 + spanL letters l else 0
/-- A number's value, if it is below 2^63. -/
def numL : Nat → List UInt8 → Option Nat
  | n, [] => some n
  | n, c :: l => if n > (9223372036854775807 - (c.toNat - 48)) / 10 then none else numL (n * 10 + (c.toNat - 48)) l
def signsF : List UInt8 := [92, 46, 58, 61, 40, 41, 91, 93, 123, 125, 44, 124, 43, 42, 47, 60, 62, 63, 59]
/-- The word that begins here, or the fault: error and word. -/
def wordL (p : Nat) (s : List UInt8) : Except (Int × ByteArray) Wd := match s with
  | [] => .error (10, s0)
  | c :: l =>
    if letterF c.toNat then
      let w : ByteArray := ⟨(s.take (spanL true s)).toArray⟩
      if w.size > 64 then .error (3, w) else if keyF w then .ok ⟨3, w, 0, p⟩ else .ok ⟨1, w, 0, p⟩
    else if digitF c.toNat then
      let n := spanL false s
      let w : ByteArray := ⟨(s.take n).toArray⟩
      match numL 0 (s.take n) with
      | none => .error (3, w)
      | some v => if (n > 1 ∧ c = 48) ∨ (match s.drop n with | d :: _ => letterF d.toNat | [] => false) = true then .error (10, w) else .ok ⟨2, w, v, p⟩
    else if c = 45 then (match l with | 62 :: _ => .ok ⟨4, ⟨#[45, 62]⟩, 0, p⟩ | _ => .ok ⟨4, ⟨#[45]⟩, 0, p⟩)
    else if c ∈ signsF then .ok ⟨4, ⟨#[c]⟩, 0, p⟩
    else .error (10, ⟨#[c]⟩)
/-- From place p on. -/
def scanL : Nat → Nat → List UInt8 → Except (Int × Int × ByteArray) (List Wd)
  | 0, p, s => .ok []
  | n + 1, p, s =>
    let k := skipL false s
    let s := s.drop k
    match s with
    | [] => .ok []
    | _ => match wordL (p + k) s with
      | .error (e, w) => .error (e, (p + k : Nat), w)
      | .ok w => match scanL n (p + k + w.text.size) (s.drop w.text.size) with
        | .error x => .error x
        | .ok l => .ok (w :: l)
/-- scan.All. -/
def scanF (s : ByteArray) : Except (Int × Int × ByteArray) (List Wd) :=
  if s.size > 65536 then .error (3, 0, s0) else match scanL (s.size + 1) 0 s.data.toList with
    | .error x => .error x
    | .ok l => .ok (l ++ [⟨0, s0, 0, s.size⟩])
/-- parse.Term. -/
def readF (s : ByteArray) : Except (Int × Int × ByteArray) Tm := match scanF s with
  | .error x => .error x
  | .ok l => match wordsP l with
    | .bad e a w => .error (e, a, w)
    | .ok t j => match l[j]? with
      | some w => if w.kind = 0 then .ok t else .error (40, w.place, w.text)
      | none => .error (0, 0, s0)
end Go.Proofs.YtmaokphbfjpodaaDoor.E
