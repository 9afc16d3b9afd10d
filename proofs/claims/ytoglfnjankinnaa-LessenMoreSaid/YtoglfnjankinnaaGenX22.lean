/- Texts, merged: LeQ, Sm, Lm. No conditions. -/
import Derived.Test.YtoglfnjankinnaaGenX21
import Derived.Test.YtoglfnjankinnaaGenX9
/- Less annotated terms: plain laws, beside one another. No conditions. -/
set_option linter.unusedVariables false
set_option linter.unusedSimpArgs false
namespace Go.Proofs.Ytoglfnjankinnaa.E
open Go

theorem fromA_type {k : Int} (h : k ≠ 17) : fromA k = typeK k := by rw [Bool.eq_iff_iff]; simp [fromA, typeK]; omega
theorem toA_to {k : Int} (h : k ≠ 17) : (k = 5) = (toK k = true) := by rw [eq_iff_iff]; simp [toK]; omega
theorem not17 {k name arg num tk tks uk uks label place ks} (h : tmhas 17 (.node k name arg num tk tks uk uks label place ks) = false) : k ≠ 17 := fun e => by subst e; simp [tmhas] at h
theorem le_same (B : Nat → Bool) (t : Tm) : ∀ n, tmright t = true → tmhas 17 t = false → (∀ i, n ≤ i → i < n + tmSp t → B i = false) → tmsame (leT B t n) t = true := by
  induction t using Tm.ind with
  | _ k name arg num tk tks uk uks label place ks ih =>
  intro n h h17 hB
  obtain ⟨o1, o2⟩ := tmright_own h
  have hk := not17 h17
  simp only [tmSp] at hB
  have hs : tmsames (leTs B ks (n + ownSp k tk tks uk uks)) ks = true := (tmsames_all _ ks (leTs_len _ _ _)).2 fun j x y hx hy => by
    rw [leTs_get B ks j _ y hy] at hx
    cases hx
    have hm := List.mem_of_getElem? hy
    have h1 := tmSpL_take ks j y hy
    have h2 := tmSpL_le ks (j + 1)
    exact ih y hm _ (tmright_kid h hm) (tmhas_kid h17 hm) (fun i g1 g2 => hB i (by omega) (by omega))
  have e1 : typeK k = true → walkT B false (.node tk tks) n = .node tk tks := fun q => by
    have hf : fromA k = true := by rw [fromA_type hk]; exact q
    refine walk_same _ B n (tcheck_right (o1 q)) fun i g1 g2 => hB i g1 ?_
    have : spN (.node tk tks) ≤ ownSp k tk tks uk uks := by simp only [ownSp, if_pos hf]; omega
    omega
  have e2 : toK k = true → walkT B false (.node uk uks) (n + spN (.node tk tks)) = .node uk uks := fun q => by
    have h5 : k = 5 := by rw [toA_to hk]; exact q
    have hf : fromA k = true := by subst h5; rfl
    refine walk_same _ B _ (tcheck_right (o2 q)) fun i g1 g2 => hB i (by omega) ?_
    have : spN (.node tk tks) + spN (.node uk uks) = ownSp k tk tks uk uks := by simp only [ownSp, if_pos hf, if_pos h5]
    omega
  have s1 : typeK k = true → sameS (.node (if fromA k = true then tyK (walkT B false (.node tk tks) n) else 0) (if fromA k = true then tyKs (walkT B false (.node tk tks) n) else [])) (.node tk tks) = true := fun q => by
    rw [if_pos (by rw [fromA_type hk]; exact q), if_pos (by rw [fromA_type hk]; exact q), e1 q]
    exact sameS_self (o1 q)
  have s2 : toK k = true → sameS (.node (if k = 5 then tyK (walkT B false (.node uk uks) (n + spN (.node tk tks))) else 0) (if k = 5 then tyKs (walkT B false (.node uk uks) (n + spN (.node tk tks))) else [])) (.node uk uks) = true := fun q => by
    rw [if_pos (by rw [toA_to hk]; exact q), if_pos (by rw [toA_to hk]; exact q), e2 q]
    exact sameS_self (o2 q)
  simp only [leT, tmsame, ownSame, hs, Bool.and_true]
  generalize (if fromA k = true then tyK (walkT B false (.node tk tks) n) else 0) = a1 at *
  generalize (if fromA k = true then tyKs (walkT B false (.node tk tks) n) else []) = a2 at *
  generalize (if k = 5 then tyK (walkT B false (.node uk uks) (n + spN (.node tk tks))) else 0) = a3 at *
  generalize (if k = 5 then tyKs (walkT B false (.node uk uks) (n + spN (.node tk tks))) else []) = a4 at *
  have hk' : decide (k = 17) = false := by simpa using hk
  by_cases h7 : k = 1 <;> cases h1 : typeK k <;> cases h2 : toK k <;> cases h3 : nameK k <;> cases h4 : argK k <;> cases h5 : decide (k = 15) <;> simp_all
theorem le_congr (B B' : Nat → Bool) (t : Tm) : ∀ n, tmhas 17 t = false → (∀ i, n ≤ i → i < n + tmSp t → B i = B' i) → leT B t n = leT B' t n := by
  induction t using Tm.ind with
  | _ k name arg num tk tks uk uks label place ks ih =>
  intro n h17 hB
  simp only [tmSp] at hB
  have hs : leTs B ks (n + ownSp k tk tks uk uks) = leTs B' ks (n + ownSp k tk tks uk uks) := by
    refine List.ext_getElem? fun j => ?_
    cases hx : ks[j]? with
    | none => rw [List.getElem?_eq_none (by rw [leTs_len]; exact List.getElem?_eq_none_iff.1 hx), List.getElem?_eq_none (by rw [leTs_len]; exact List.getElem?_eq_none_iff.1 hx)]
    | some x =>
      rw [leTs_get B ks j _ x hx, leTs_get B' ks j _ x hx]
      have h1 := tmSpL_take ks j x hx
      have h2 := tmSpL_le ks (j + 1)
      rw [ih x (List.mem_of_getElem? hx) _ (tmhas_kid h17 (List.mem_of_getElem? hx)) (fun i g1 g2 => hB i (by omega) (by omega))]
  have e1 : fromA k = true → walkT B false (.node tk tks) n = walkT B' false (.node tk tks) n := fun hf => by
    refine walk_congr _ B B' false n fun i g1 g2 => hB i g1 ?_
    have : spN (.node tk tks) ≤ ownSp k tk tks uk uks := by simp only [ownSp, if_pos hf]; omega
    omega
  have e2 : k = 5 → walkT B false (.node uk uks) (n + spN (.node tk tks)) = walkT B' false (.node uk uks) (n + spN (.node tk tks)) := fun h5 => by
    have hf : fromA k = true := by subst h5; rfl
    refine walk_congr _ B B' false _ fun i g1 g2 => hB i (by omega) ?_
    have : spN (.node tk tks) + spN (.node uk uks) = ownSp k tk tks uk uks := by simp only [ownSp, if_pos hf, if_pos h5]
    omega
  simp only [leT, hs]
  by_cases hf : fromA k = true <;> by_cases h5 : k = 5
  · simp only [hf, h5, if_true]; subst h5; rw [e1 hf, e2 rfl]
  · simp only [hf, h5, if_true, if_false]; rw [e1 hf]
  · exact absurd (by subst h5; rfl) hf
  · simp [hf, h5]
theorem le_terms (B B' : Nat → Bool) (hB : ∀ i, B i = true → B' i = true) (t : Tm) : ∀ n, tmright t = true → tmhas 17 t = false → tmterms (leT B' t n) (leT B t n) = true := by
  induction t using Tm.ind with
  | _ k name arg num tk tks uk uks label place ks ih =>
  intro n h h17
  obtain ⟨o1, o2⟩ := tmright_own h
  have hk := not17 h17
  have hs : tmtermss (leTs B' ks (n + ownSp k tk tks uk uks)) (leTs B ks (n + ownSp k tk tks uk uks)) = true := (tmtermss_all _ _ (by rw [leTs_len, leTs_len])).2 fun j x y hx hy => by
    have hl : j < ks.length := by have := (List.getElem?_eq_some_iff.1 hx).1; rw [leTs_len] at this; exact this
    have hz := List.getElem?_eq_getElem hl
    rw [leTs_get B' ks j _ _ hz] at hx
    rw [leTs_get B ks j _ _ hz] at hy
    cases hx; cases hy
    exact ih _ (List.getElem_mem hl) _ (tmright_kid h (List.getElem_mem hl)) (tmhas_kid h17 (List.getElem_mem hl))
  have s1 : typeK k = true → lessF (.node (if fromA k = true then tyK (walkT B' false (.node tk tks) n) else 0) (if fromA k = true then tyKs (walkT B' false (.node tk tks) n) else [])) (.node (if fromA k = true then tyK (walkT B false (.node tk tks) n) else 0) (if fromA k = true then tyKs (walkT B false (.node tk tks) n) else [])) = true := fun q => by
    have hf : fromA k = true := by rw [fromA_type hk]; exact q
    simp only [if_pos hf]
    rw [walk_eta, walk_eta]
    exact walk_less _ B B' hB n (tcheck_right (o1 q))
  have s2 : toK k = true → lessF (.node (if k = 5 then tyK (walkT B' false (.node uk uks) (n + spN (.node tk tks))) else 0) (if k = 5 then tyKs (walkT B' false (.node uk uks) (n + spN (.node tk tks))) else [])) (.node (if k = 5 then tyK (walkT B false (.node uk uks) (n + spN (.node tk tks))) else 0) (if k = 5 then tyKs (walkT B false (.node uk uks) (n + spN (.node tk tks))) else [])) = true := fun q => by
    have h5 : k = 5 := by rw [toA_to hk]; exact q
    simp only [if_pos h5]
    rw [walk_eta, walk_eta]
    exact walk_less _ B B' hB _ (tcheck_right (o2 q))
  simp only [leT, tmterms, ownTerms, hs, Bool.and_true]
  generalize (if fromA k = true then tyK (walkT B' false (.node tk tks) n) else 0) = a1 at *
  generalize (if fromA k = true then tyKs (walkT B' false (.node tk tks) n) else []) = a2 at *
  generalize (if k = 5 then tyK (walkT B' false (.node uk uks) (n + spN (.node tk tks))) else 0) = a3 at *
  generalize (if k = 5 then tyKs (walkT B' false (.node uk uks) (n + spN (.node tk tks))) else []) = a4 at *
  generalize (if fromA k = true then tyK (walkT B false (.node tk tks) n) else 0) = b1 at *
  generalize (if fromA k = true then tyKs (walkT B false (.node tk tks) n) else []) = b2 at *
  generalize (if k = 5 then tyK (walkT B false (.node uk uks) (n + spN (.node tk tks))) else 0) = b3 at *
  generalize (if k = 5 then tyKs (walkT B false (.node uk uks) (n + spN (.node tk tks))) else []) = b4 at *
  cases h1 : typeK k <;> cases h2 : toK k <;> simp_all
theorem le_spots (B : Nat → Bool) (t : Tm) : ∀ n, tmSp (leT B t n) + cntB B n (tmSp t) ≤ tmSp t := by
  induction t using Tm.ind with
  | _ k name arg num tk tks uk uks label place ks ih =>
  intro n
  have hs : ∀ (l : List Tm) (n : Nat), (∀ t ∈ l, ∀ n, tmSp (leT B t n) + cntB B n (tmSp t) ≤ tmSp t) → tmSpL (leTs B l n) + cntB B n (tmSpL l) ≤ tmSpL l := fun l => by
    induction l with
    | nil => intro n _; simp [leTs, tmSpL, cntB]
    | cons x l il =>
      intro n h
      have h1 := h x (by simp) n
      have h2 := il (n + tmSp x) fun t ht => h t (by simp [ht])
      simp only [leTs, tmSpL, cntB_add]; omega
  have h0 := hs ks (n + ownSp k tk tks uk uks) ih
  have w1 := walk_spots (.node tk tks) B n
  have w2 := walk_spots (.node uk uks) B (n + spN (.node tk tks))
  have ho : ownSp k (if fromA k = true then tyK (walkT B false (.node tk tks) n) else 0) (if fromA k = true then tyKs (walkT B false (.node tk tks) n) else []) (if k = 5 then tyK (walkT B false (.node uk uks) (n + spN (.node tk tks))) else 0) (if k = 5 then tyKs (walkT B false (.node uk uks) (n + spN (.node tk tks))) else []) + cntB B n (ownSp k tk tks uk uks) ≤ ownSp k tk tks uk uks := by
    by_cases hf : fromA k = true <;> by_cases h5 : k = 5
    · simp only [ownSp, if_pos hf, if_pos h5]
      rw [walk_eta, walk_eta, cntB_add]; omega
    · simp only [ownSp, if_pos hf, if_neg h5]
      rw [walk_eta]; simp only [Nat.add_zero]; exact w1
    · exact absurd (by subst h5; rfl) hf
    · simp only [ownSp, if_neg hf, if_neg h5]; simp [cntB]
  simp only [leT, tmSp, cntB_add]
  omega
theorem cntB_true (n : Nat) : ∀ m, cntB leBT n m = m
  | 0 => rfl
  | m + 1 => by simp [cntB, cntB_true n m, leBT]
theorem le_none (t : Tm) (n : Nat) : tmSp (leT leBT t n) = 0 := by
  have := le_spots leBT t n
  rw [cntB_true] at this
  omega
end Go.Proofs.Ytoglfnjankinnaa.E

/- Small terms: counted with an early end. No conditions. -/
set_option linter.unusedVariables false
set_option linter.unusedSimpArgs false
namespace Go.Proofs.Ytoglfnjankinnaa.E
open Go

structure TypedI (n m : Nat) where
  i : Nat
  c : Nat
  hi : i ≤ m
  h : i + n + 1 ≤ c ∧ c ≤ max 32769 (n + 1)
set_option maxRecDepth 10000 in
theorem typed_call (a : Ty) : ∀ n : Nat, n ≤ 32770 → ACall Try.prog 151 [a.val, .c (.d (.int .i64 n))] [] (fun o σ => ∃ r : Nat, (n < r ∧ r ≤ max 32769 (n + 1)) ∧ o = .ret (.c (.d (.int .i64 r))) ∧ σ = []) := by
  induction a using Ty.ind with
  | _ k ks ih =>
  intro n hn
  have hw : IntKind.i64.wrap ((n : Int) + 1) = ((n + 1 : Nat) : Int) := by rw [wrap64 (x := (n : Int) + 1) (by omega) (by omega)]; omega
  refine ACall.body tab_ok (ρ := 0) (N := 27) Try.func151 rfl rfl rfl rfl rfl ?_
  repeat' first
    | refine AW.seq ?_
    | refine AW.block ?_
    | (refine AW.region tab_ok ?_; conv => whnf)
    | (refine AW.cond ?_; conv => whnf)
    | (refine AW.skip ?_; conv => whnf)
    | (refine AW.ret ?_; conv => whnf)
    | (refine AW.exit ?_; conv => whnf)
    | (refine And.intro (@rfl Val _) ?_; conv => whnf)
    | (refine And.intro (by decide) ?_; conv => whnf)
    | (refine cs (fun _ => ?_) (fun _ => ?_) <;> conv => whnf)
  refine AW.loop (ι := TypedI n ks.length) (fun x => ⟨27, [(5, .c (.d (.int .i64 x.i))), (1, .c (.d (.int .i64 x.c))), (2, .c (.ptr 0 0))], [.var [.d (.int .i8 k), .d (.sl 0 2 (Ty.rows ks))]], []⟩)
    (fun x => ks.length - x.i) ⟨0, n + 1, Nat.zero_le _, ⟨by omega, Nat.le_max_right _ _⟩⟩ 1 (fun _ => rfl) (Nat.le_of_ble_eq_true rfl) ⟨⟨rfl, by rw [hw]; rfl, rfl, trivial⟩, rfl, rfl, ⟨[], rfl⟩, rfl⟩ (fun x => ?_)
  obtain ⟨i, c, hi, h⟩ := x
  repeat' first
    | refine AW.seq ?_
    | refine AW.block ?_
    | (refine AW.region tab_ok ?_; conv => whnf)
    | (refine AW.cond ?_; conv => whnf)
    | (refine AW.skip ?_; conv => whnf)
    | (refine AW.ret ?_; conv => whnf)
    | (refine AW.exit ?_; conv => whnf)
    | (refine And.intro (@rfl Val _) ?_; conv => whnf)
    | (refine And.intro (by decide) ?_; conv => whnf)
    | (refine cs (fun _ => ?_) (fun _ => ?_) <;> conv => whnf)
  · rename_i h1 h2
    simp only [rows_length] at h1 ⊢
    have := of_decide_eq_true h1
    have h3 : c ≤ 32768 := by have := of_decide_eq_true h2; simp only at this; omega
    refine ⟨by omega, fun row hrow => ?_⟩
    obtain ⟨⟨k', ks'⟩, ht, rfl⟩ := rows_get ks i row (by simpa using hrow)
    have hlt : i < ks.length := (List.getElem?_eq_some_iff.1 ht).1
    conv => whnf
    repeat' first
      | refine AW.seq ?_
      | refine AW.block ?_
      | (refine AW.region tab_ok ?_; conv => whnf)
      | (refine AW.cond ?_; conv => whnf)
      | (refine AW.skip ?_; conv => whnf)
      | (refine AW.ret ?_; conv => whnf)
      | (refine AW.exit ?_; conv => whnf)
      | (refine And.intro (@rfl Val _) ?_; conv => whnf)
      | (refine And.intro (by decide) ?_; conv => whnf)
      | (refine cs (fun _ => ?_) (fun _ => ?_) <;> conv => whnf)
    refine (ih _ (List.mem_of_getElem? ht) _ (by omega)).mono ?_
    rintro _ _ ⟨r, hr, rfl, rfl⟩
    conv => whnf
    repeat' first
      | refine AW.seq ?_
      | refine AW.block ?_
      | (refine AW.region tab_ok ?_; conv => whnf)
      | (refine AW.cond ?_; conv => whnf)
      | (refine AW.skip ?_; conv => whnf)
      | (refine AW.ret ?_; conv => whnf)
      | (refine AW.exit ?_; conv => whnf)
      | (refine And.intro (@rfl Val _) ?_; conv => whnf)
      | (refine And.intro (by decide) ?_; conv => whnf)
      | (refine cs (fun _ => ?_) (fun _ => ?_) <;> conv => whnf)
    rw [wrap64 (x := (i : Int) + 1) (by omega) (by omega)]
    exact ⟨⟨i + 1, r, hlt, by omega⟩, ⟨⟨rfl, rfl, rfl, trivial⟩, rfl, rfl, ⟨[], rfl⟩, rfl⟩, show ks.length - (i + 1) < ks.length - i by omega⟩
  · exact ⟨c, by omega, rfl, rfl⟩
  · exact ⟨c, by omega, rfl, rfl⟩

structure CountedI (n m most : Nat) where
  i : Nat
  c : Nat
  hi : i ≤ m
  h : i + n + 1 ≤ c ∧ c ≤ most
set_option maxRecDepth 10000 in
theorem smcounted_call (t : Tm) : ∀ n : Nat, n ≤ 32768 → ACall Try.prog 92 [t.val, .c (.d (.int .i64 n))] [] (fun o σ => ∃ r : Nat, (n < r ∧ r ≤ 32771) ∧ o = .ret (.c (.d (.int .i64 r))) ∧ σ = []) := by
  induction t using Tm.ind with
  | _ k name arg num tk tks uk uks label place ks ih =>
  intro n hn
  have hw : IntKind.i64.wrap ((n : Int) + 1) = ((n + 1 : Nat) : Int) := by rw [wrap64 (x := (n : Int) + 1) (by omega) (by omega)]; omega
  refine ACall.body tab_ok (ρ := 0) (N := 33) Try.func92 rfl rfl rfl rfl rfl ?_
  repeat' first
    | refine AW.seq ?_
    | refine AW.block ?_
    | (refine AW.region tab_ok ?_; conv => whnf)
    | (refine AW.draw (id := 1) tab_ok mixed [0, 1, 2, 3, 4, 5, 6, 7, 8] (by kernel_rfl) ?_; conv => whnf)
    | (refine AW.cond ?_; conv => whnf)
    | (refine AW.skip ?_; conv => whnf)
    | (refine AW.ret ?_; conv => whnf)
    | (refine AW.exit ?_; conv => whnf)
    | (refine And.intro (@rfl Val _) ?_; conv => whnf)
    | (refine And.intro (by decide) ?_; conv => whnf)
    | (refine cs (fun _ => ?_) (fun _ => ?_) <;> conv => whnf)
  all_goals rw [hw]
  refine (typed_call (.node tk tks) (n + 1) (by omega)).mono ?_
  rintro _ _ ⟨r1, hr1, rfl, rfl⟩
  conv => whnf
  repeat' first
    | refine AW.seq ?_
    | refine AW.block ?_
    | (refine AW.region tab_ok ?_; conv => whnf)
    | (refine AW.draw (id := 1) tab_ok mixed [0, 1, 2, 3, 4, 5, 6, 7, 8] (by kernel_rfl) ?_; conv => whnf)
    | (refine AW.cond ?_; conv => whnf)
    | (refine AW.skip ?_; conv => whnf)
    | (refine AW.ret ?_; conv => whnf)
    | (refine AW.exit ?_; conv => whnf)
    | (refine And.intro (@rfl Val _) ?_; conv => whnf)
    | (refine And.intro (by decide) ?_; conv => whnf)
    | (refine cs (fun _ => ?_) (fun _ => ?_) <;> conv => whnf)
  refine (typed_call (.node uk uks) r1 (by omega)).mono ?_
  rintro _ _ ⟨r2, hr2, rfl, rfl⟩
  conv => whnf
  repeat' first
    | refine AW.seq ?_
    | refine AW.block ?_
    | (refine AW.region tab_ok ?_; conv => whnf)
    | (refine AW.draw (id := 1) tab_ok mixed [0, 1, 2, 3, 4, 5, 6, 7, 8] (by kernel_rfl) ?_; conv => whnf)
    | (refine AW.cond ?_; conv => whnf)
    | (refine AW.skip ?_; conv => whnf)
    | (refine AW.ret ?_; conv => whnf)
    | (refine AW.exit ?_; conv => whnf)
    | (refine And.intro (@rfl Val _) ?_; conv => whnf)
    | (refine And.intro (by decide) ?_; conv => whnf)
    | (refine cs (fun _ => ?_) (fun _ => ?_) <;> conv => whnf)
  refine AW.loop (ι := CountedI n ks.length 32771) (fun x => ⟨33, [(5, .c (.d (.int .i64 x.i))), (1, .c (.d (.int .i64 x.c))), (2, .c (.ptr 0 0))], [.var (Tm.cells (.node k name arg num tk tks uk uks label place ks) |>.map .d)], []⟩)
    (fun x => ks.length - x.i) ⟨0, r2, Nat.zero_le _, by omega⟩ 1 (fun _ => rfl) (Nat.le_of_ble_eq_true rfl) ⟨⟨rfl, rfl, rfl, trivial⟩, rfl, rfl, ⟨[], rfl⟩, rfl⟩ (fun x => ?_)
  obtain ⟨i, c, hi, h⟩ := x
  repeat' first
    | refine AW.seq ?_
    | refine AW.block ?_
    | (refine AW.region tab_ok ?_; conv => whnf)
    | (refine AW.draw (id := 1) tab_ok mixed [0, 1, 2, 3, 4, 5, 6, 7, 8] (by kernel_rfl) ?_; conv => whnf)
    | (refine AW.cond ?_; conv => whnf)
    | (refine AW.skip ?_; conv => whnf)
    | (refine AW.ret ?_; conv => whnf)
    | (refine AW.exit ?_; conv => whnf)
    | (refine And.intro (@rfl Val _) ?_; conv => whnf)
    | (refine And.intro (by decide) ?_; conv => whnf)
    | (refine cs (fun _ => ?_) (fun _ => ?_) <;> conv => whnf)
  · rename_i h1 h2
    simp only [trows_length] at h1 ⊢
    have := of_decide_eq_true h1
    have h3 : c ≤ 32768 := by have := of_decide_eq_true h2; simp only at this; omega
    refine ⟨by omega, fun row hrow => ?_⟩
    obtain ⟨t, ht, rfl⟩ := trows_get ks i row (by simpa using hrow)
    have hlt : i < ks.length := (List.getElem?_eq_some_iff.1 ht).1
    obtain ⟨kx, namex, argx, numx, tkx, tksx, ukx, uksx, labelx, placex, ksx⟩ := t
    conv => whnf
    repeat' first
      | refine AW.seq ?_
      | refine AW.block ?_
      | (refine AW.region tab_ok ?_; conv => whnf)
      | (refine AW.draw (id := 1) tab_ok mixed [0, 1, 2, 3, 4, 5, 6, 7, 8] (by kernel_rfl) ?_; conv => whnf)
      | (refine AW.cond ?_; conv => whnf)
      | (refine AW.skip ?_; conv => whnf)
      | (refine AW.ret ?_; conv => whnf)
      | (refine AW.exit ?_; conv => whnf)
      | (refine And.intro (@rfl Val _) ?_; conv => whnf)
      | (refine And.intro (by decide) ?_; conv => whnf)
      | (refine cs (fun _ => ?_) (fun _ => ?_) <;> conv => whnf)
    refine (ih _ (List.mem_of_getElem? ht) _ (by omega)).mono ?_
    rintro _ _ ⟨r, hr, rfl, rfl⟩
    conv => whnf
    repeat' first
      | refine AW.seq ?_
      | refine AW.block ?_
      | (refine AW.region tab_ok ?_; conv => whnf)
      | (refine AW.draw (id := 1) tab_ok mixed [0, 1, 2, 3, 4, 5, 6, 7, 8] (by kernel_rfl) ?_; conv => whnf)
      | (refine AW.cond ?_; conv => whnf)
      | (refine AW.skip ?_; conv => whnf)
      | (refine AW.ret ?_; conv => whnf)
      | (refine AW.exit ?_; conv => whnf)
      | (refine And.intro (@rfl Val _) ?_; conv => whnf)
      | (refine And.intro (by decide) ?_; conv => whnf)
      | (refine cs (fun _ => ?_) (fun _ => ?_) <;> conv => whnf)
    rw [wrap64 (x := (i : Int) + 1) (by omega) (by omega)]
    exact ⟨⟨i + 1, r, hlt, by omega⟩, ⟨⟨rfl, rfl, rfl, trivial⟩, rfl, rfl, ⟨[], rfl⟩, rfl⟩, show ks.length - (i + 1) < ks.length - i by omega⟩
  · exact ⟨c, by omega, rfl, rfl⟩
  · exact ⟨c, by omega, rfl, rfl⟩
set_option maxRecDepth 10000 in
theorem Small_call (t : Tm) : ACall Try.prog 50 [t.val] [] (fun o σ => ∃ b : Bool, o = .ret (.c (.d (.bool b))) ∧ σ = []) := by
  obtain ⟨k, name, arg, num, tk, tks, uk, uks, label, place, ks⟩ := t
  refine ACall.body tab_ok (ρ := 0) (N := 6) Try.func50 rfl rfl rfl rfl rfl ?_
  repeat' first
    | refine AW.seq ?_
    | refine AW.block ?_
    | (refine AW.region tab_ok ?_; conv => whnf)
    | (refine AW.cond ?_; conv => whnf)
    | (refine AW.skip ?_; conv => whnf)
    | (refine AW.ret ?_; conv => whnf)
    | (refine AW.exit ?_; conv => whnf)
    | (refine And.intro (@rfl Val _) ?_; conv => whnf)
    | (refine And.intro (by decide) ?_; conv => whnf)
    | (refine cs (fun _ => ?_) (fun _ => ?_) <;> conv => whnf)
  refine (smcounted_call (.node k name arg num tk tks uk uks label place ks) 0 (by omega)).mono ?_
  rintro _ _ ⟨r, hr, rfl, rfl⟩
  conv => whnf
  repeat' first
    | refine AW.seq ?_
    | refine AW.block ?_
    | (refine AW.region tab_ok ?_; conv => whnf)
    | (refine AW.cond ?_; conv => whnf)
    | (refine AW.skip ?_; conv => whnf)
    | (refine AW.ret ?_; conv => whnf)
    | (refine AW.exit ?_; conv => whnf)
    | (refine And.intro (@rfl Val _) ?_; conv => whnf)
    | (refine And.intro (by decide) ?_; conv => whnf)
    | (refine cs (fun _ => ?_) (fun _ => ?_) <;> conv => whnf)
  exact ⟨_, rfl, rfl⟩
set_option maxRecDepth 10000 in
theorem wcounted_call (t : Tm) : ∀ n : Nat, n ≤ 600 → ACall Try.prog 51 [t.val, .c (.ptr 0 0)] [.var [.d (.int .i64 n)]] (fun o σ => ∃ r : Nat, (n < r ∧ r ≤ 601) ∧ o = .ret (.c (.d (.int .i64 r))) ∧ σ = [.var [.d (.int .i64 r)]]) := by
  induction t using Tm.ind with
  | _ k name arg num tk tks uk uks label place ks ih =>
  intro n hn
  have hw : IntKind.i64.wrap ((n : Int) + 1) = ((n + 1 : Nat) : Int) := by rw [wrap64 (x := (n : Int) + 1) (by omega) (by omega)]; omega
  refine ACall.body tab_ok (ρ := 0) (N := 35) Try.func51 rfl rfl rfl rfl rfl ?_
  repeat' first
    | refine AW.seq ?_
    | refine AW.block ?_
    | (refine AW.region tab_ok ?_; conv => whnf)
    | (refine AW.cond ?_; conv => whnf)
    | (refine AW.skip ?_; conv => whnf)
    | (refine AW.ret ?_; conv => whnf)
    | (refine AW.exit ?_; conv => whnf)
    | (refine And.intro (@rfl Val _) ?_; conv => whnf)
    | (refine And.intro (by decide) ?_; conv => whnf)
    | (refine cs (fun _ => ?_) (fun _ => ?_) <;> conv => whnf)
  refine AW.loop (ι := CountedI n ks.length 601) (fun x => ⟨35, [(5, .c (.d (.int .i64 x.i))), (1, .c (.ptr 0 0)), (2, .c (.ptr 1 0))], [.var [.d (.int .i64 x.c)], .var (Tm.cells (.node k name arg num tk tks uk uks label place ks) |>.map .d)], []⟩)
    (fun x => ks.length - x.i) ⟨0, n + 1, Nat.zero_le _, by omega⟩ 2 (fun _ => rfl) (Nat.le_of_ble_eq_true rfl) ⟨⟨rfl, rfl, rfl, trivial⟩, rfl, rfl, ⟨[], by rw [hw]; rfl⟩, rfl⟩ (fun x => ?_)
  obtain ⟨i, c, hi, h⟩ := x
  repeat' first
    | refine AW.seq ?_
    | refine AW.block ?_
    | (refine AW.region tab_ok ?_; conv => whnf)
    | (refine AW.cond ?_; conv => whnf)
    | (refine AW.skip ?_; conv => whnf)
    | (refine AW.ret ?_; conv => whnf)
    | (refine AW.exit ?_; conv => whnf)
    | (refine And.intro (@rfl Val _) ?_; conv => whnf)
    | (refine And.intro (by decide) ?_; conv => whnf)
    | (refine cs (fun _ => ?_) (fun _ => ?_) <;> conv => whnf)
  · rename_i h1 h2
    simp only [trows_length] at h1 ⊢
    have := of_decide_eq_true h1
    have h3 : c ≤ 600 := by have := of_decide_eq_true h2; simp only at this; omega
    refine ⟨by omega, fun row hrow => ?_⟩
    obtain ⟨t, ht, rfl⟩ := trows_get ks i row (by simpa using hrow)
    have hlt : i < ks.length := (List.getElem?_eq_some_iff.1 ht).1
    obtain ⟨kx, namex, argx, numx, tkx, tksx, ukx, uksx, labelx, placex, ksx⟩ := t
    conv => whnf
    repeat' first
      | refine AW.seq ?_
      | refine AW.block ?_
      | (refine AW.region tab_ok ?_; conv => whnf)
      | (refine AW.cond ?_; conv => whnf)
      | (refine AW.skip ?_; conv => whnf)
      | (refine AW.ret ?_; conv => whnf)
      | (refine AW.exit ?_; conv => whnf)
      | (refine And.intro (@rfl Val _) ?_; conv => whnf)
      | (refine And.intro (by decide) ?_; conv => whnf)
      | (refine cs (fun _ => ?_) (fun _ => ?_) <;> conv => whnf)
    refine (ih _ (List.mem_of_getElem? ht) _ h3).mono ?_
    rintro _ _ ⟨r, hr, rfl, rfl⟩
    conv => whnf
    repeat' first
      | refine AW.seq ?_
      | refine AW.block ?_
      | (refine AW.region tab_ok ?_; conv => whnf)
      | (refine AW.cond ?_; conv => whnf)
      | (refine AW.skip ?_; conv => whnf)
      | (refine AW.ret ?_; conv => whnf)
      | (refine AW.exit ?_; conv => whnf)
      | (refine And.intro (@rfl Val _) ?_; conv => whnf)
      | (refine And.intro (by decide) ?_; conv => whnf)
      | (refine cs (fun _ => ?_) (fun _ => ?_) <;> conv => whnf)
    rw [wrap64 (x := (i : Int) + 1) (by omega) (by omega)]
    exact ⟨⟨i + 1, r, hlt, by omega⟩, ⟨⟨rfl, rfl, rfl, trivial⟩, rfl, rfl, ⟨[], rfl⟩, rfl⟩, show ks.length - (i + 1) < ks.length - i by omega⟩
  · exact ⟨c, by omega, rfl, rfl⟩
  · exact ⟨c, by omega, rfl, rfl⟩
set_option maxRecDepth 10000 in
theorem great_call (t : Tm) (l : List Int) : ACall Try.prog 18 [t.val, .c (.d (.sl 0 1 (ints l)))] [] (fun o σ => ∃ b : Bool, (b = false → l.length ≤ 300) ∧ o = .ret (.c (.d (.bool b))) ∧ σ = []) := by
  obtain ⟨k, name, arg, num, tk, tks, uk, uks, label, place, ks⟩ := t
  refine ACall.body tab_ok (ρ := 0) (N := 18) Try.func18 rfl rfl rfl rfl rfl ?_
  repeat' first
    | refine AW.seq ?_
    | refine AW.block ?_
    | (refine AW.region tab_ok ?_; conv => whnf)
    | (refine AW.cond ?_; conv => whnf)
    | (refine AW.skip ?_; conv => whnf)
    | (refine AW.ret ?_; conv => whnf)
    | (refine AW.exit ?_; conv => whnf)
    | (refine And.intro (@rfl Val _) ?_; conv => whnf)
    | (refine And.intro (by decide) ?_; conv => whnf)
    | (refine cs (fun _ => ?_) (fun _ => ?_) <;> conv => whnf)
  · exact ⟨true, (fun h => nomatch h), rfl, rfl⟩
  · rename_i h1
    have h1 := of_decide_eq_false h1
    rw [ints_len] at h1
    have hl : l.length ≤ 300 := by omega
    refine (Small_call (.node k name arg num tk tks uk uks label place ks)).mono ?_
    rintro _ _ ⟨b, rfl, rfl⟩
    conv => whnf
    cases b
    · skip
      repeat' first
        | refine AW.seq ?_
        | refine AW.block ?_
        | (refine AW.region tab_ok ?_; conv => whnf)
        | (refine AW.cond ?_; conv => whnf)
        | (refine AW.skip ?_; conv => whnf)
        | (refine AW.ret ?_; conv => whnf)
        | (refine AW.exit ?_; conv => whnf)
        | (refine And.intro (@rfl Val _) ?_; conv => whnf)
        | (refine And.intro (by decide) ?_; conv => whnf)
        | (refine cs (fun _ => ?_) (fun _ => ?_) <;> conv => whnf)
      all_goals exact ⟨_, fun _ => hl, rfl, rfl⟩
    · skip
      repeat' first
        | refine AW.seq ?_
        | refine AW.block ?_
        | (refine AW.region tab_ok ?_; conv => whnf)
        | (refine AW.cond ?_; conv => whnf)
        | (refine AW.skip ?_; conv => whnf)
        | (refine AW.ret ?_; conv => whnf)
        | (refine AW.exit ?_; conv => whnf)
        | (refine And.intro (@rfl Val _) ?_; conv => whnf)
        | (refine And.intro (by decide) ?_; conv => whnf)
        | (refine cs (fun _ => ?_) (fun _ => ?_) <;> conv => whnf)
      refine (wcounted_call (.node k name arg num tk tks uk uks label place ks) 0 (by omega)).mono ?_
      rintro _ _ ⟨r, hr, rfl, rfl⟩
      conv => whnf
      repeat' first
        | refine AW.seq ?_
        | refine AW.block ?_
        | (refine AW.region tab_ok ?_; conv => whnf)
        | (refine AW.cond ?_; conv => whnf)
        | (refine AW.skip ?_; conv => whnf)
        | (refine AW.ret ?_; conv => whnf)
        | (refine AW.exit ?_; conv => whnf)
        | (refine And.intro (@rfl Val _) ?_; conv => whnf)
        | (refine And.intro (by decide) ?_; conv => whnf)
        | (refine cs (fun _ => ?_) (fun _ => ?_) <;> conv => whnf)
      all_goals exact ⟨_, fun _ => hl, rfl, rfl⟩
set_option maxRecDepth 10000 in
theorem LOf_call (k : Int) (a b : Ty) : ACall Try.prog 14 [.c (.d (.int .i8 k)), a.val, b.val] [] (fun o σ => o = .ret (Ty.node k [a, b]).val ∧ σ = []) := by
  obtain ⟨k1, s1⟩ := a
  obtain ⟨k2, s2⟩ := b
  refine ACall.body tab_ok (ρ := 0) (N := 12) Try.func14 rfl rfl rfl rfl rfl ?_
  repeat' first
    | refine AW.seq ?_
    | refine AW.block ?_
    | (refine AW.region tab_ok ?_; conv => whnf)
    | (refine AW.cond ?_; conv => whnf)
    | (refine AW.skip ?_; conv => whnf)
    | (refine AW.ret ?_; conv => whnf)
    | (refine AW.exit ?_; conv => whnf)
    | (refine And.intro (@rfl Val _) ?_; conv => whnf)
    | (refine And.intro (by decide) ?_; conv => whnf)
    | (refine cs (fun _ => ?_) (fun _ => ?_) <;> conv => whnf)
  exact ⟨rfl, rfl⟩
def wkT : Tm := .node 4 ⟨#[120]⟩ ⟨#[]⟩ 0 3 [.node 1 [], .node 2 []] 0 [] 0 0 [.node 0 ⟨#[120]⟩ ⟨#[]⟩ 0 0 [] 0 [] 0 0 []]
theorem wk_sound : soundE wkT = 0 := by decide +kernel
theorem wk_sp : tmSp wkT = 3 := by decide +kernel
theorem wk_at1 : atE wkT [1] = 0 := by decide +kernel
theorem wk_at2 : atE wkT [0, 2] = 0 := by decide +kernel
theorem wk_at3 : atE wkT [3] = 2 := by decide +kernel
theorem wk_t1 : leT (atB [1]) wkT 0 = .node 4 ⟨#[120]⟩ ⟨#[]⟩ 0 3 [.node 0 [], .node 2 []] 0 [] 0 0 [.node 0 ⟨#[120]⟩ ⟨#[]⟩ 0 0 [] 0 [] 0 0 []] := by rfl
theorem wk_t2 : leT (atB [0, 2]) wkT 0 = .node 4 ⟨#[120]⟩ ⟨#[]⟩ 0 0 [] 0 [] 0 0 [.node 0 ⟨#[120]⟩ ⟨#[]⟩ 0 0 [] 0 [] 0 0 []] := by rfl
set_option maxRecDepth 10000 in
theorem lwakes_call : ACall Try.prog 19 [] [] (fun o σ => o = .ret (.c (.d (.bool true))) ∧ σ = []) := by
  have c0 := LOf_call 3 (.node 1 []) (.node 2 [])
  have c1 := At_call wkT [1] (by decide)
  have c2 := At_call wkT [0, 2] (by decide)
  have c3 := At_call wkT [3] (by decide)
  have c4 := Spots_call wkT
  rw [atT, wk_at1, if_pos rfl, wk_t1] at c1
  rw [atT, wk_at2, if_pos rfl, wk_t2] at c2
  rw [atT, wk_at3, if_neg (by decide)] at c3
  rw [SpotsS, if_pos wk_sound, wk_sp] at c4
  refine ACall.body tab_ok (ρ := 0) (N := 86) Try.func19 rfl rfl rfl rfl rfl ?_
  repeat' first
    | refine AW.seq ?_
    | refine AW.block ?_
    | (refine AW.region tab_ok ?_; conv => whnf)
    | (refine AW.cond ?_; conv => whnf)
    | (refine AW.skip ?_; conv => whnf)
    | (refine AW.ret ?_; conv => whnf)
    | (refine AW.exit ?_; conv => whnf)
    | (refine (c0).mono ?_; rintro _ _ ⟨rfl, rfl⟩; conv => whnf)
    | (refine (c1).mono ?_; rintro _ _ ⟨rfl, rfl⟩; conv => whnf)
    | (refine (c2).mono ?_; rintro _ _ ⟨rfl, rfl⟩; conv => whnf)
    | (refine (c3).mono ?_; rintro _ _ ⟨rfl, rfl⟩; conv => whnf)
    | (refine (c4).mono ?_; rintro _ _ ⟨rfl, rfl⟩; conv => whnf)
    | (refine And.intro (@rfl Val _) ?_; conv => whnf)
    | (refine And.intro (by decide) ?_; conv => whnf)
    | (refine cs (fun _ => ?_) (fun _ => ?_) <;> conv => whnf)
  intro row hrow
  obtain rfl : Ty.cells (.node 0 []) = row := Option.some.inj hrow
  conv => whnf
  repeat' first
    | refine AW.seq ?_
    | refine AW.block ?_
    | (refine AW.region tab_ok ?_; conv => whnf)
    | (refine AW.cond ?_; conv => whnf)
    | (refine AW.skip ?_; conv => whnf)
    | (refine AW.ret ?_; conv => whnf)
    | (refine AW.exit ?_; conv => whnf)
    | (refine (c0).mono ?_; rintro _ _ ⟨rfl, rfl⟩; conv => whnf)
    | (refine (c1).mono ?_; rintro _ _ ⟨rfl, rfl⟩; conv => whnf)
    | (refine (c2).mono ?_; rintro _ _ ⟨rfl, rfl⟩; conv => whnf)
    | (refine (c3).mono ?_; rintro _ _ ⟨rfl, rfl⟩; conv => whnf)
    | (refine (c4).mono ?_; rintro _ _ ⟨rfl, rfl⟩; conv => whnf)
    | (refine And.intro (@rfl Val _) ?_; conv => whnf)
    | (refine And.intro (by decide) ?_; conv => whnf)
    | (refine cs (fun _ => ?_) (fun _ => ?_) <;> conv => whnf)
  intro row hrow
  obtain rfl : Ty.cells (.node 2 []) = row := Option.some.inj hrow
  conv => whnf
  repeat' first
    | refine AW.seq ?_
    | refine AW.block ?_
    | (refine AW.region tab_ok ?_; conv => whnf)
    | (refine AW.cond ?_; conv => whnf)
    | (refine AW.skip ?_; conv => whnf)
    | (refine AW.ret ?_; conv => whnf)
    | (refine AW.exit ?_; conv => whnf)
    | (refine (c0).mono ?_; rintro _ _ ⟨rfl, rfl⟩; conv => whnf)
    | (refine (c1).mono ?_; rintro _ _ ⟨rfl, rfl⟩; conv => whnf)
    | (refine (c2).mono ?_; rintro _ _ ⟨rfl, rfl⟩; conv => whnf)
    | (refine (c3).mono ?_; rintro _ _ ⟨rfl, rfl⟩; conv => whnf)
    | (refine (c4).mono ?_; rintro _ _ ⟨rfl, rfl⟩; conv => whnf)
    | (refine And.intro (@rfl Val _) ?_; conv => whnf)
    | (refine And.intro (by decide) ?_; conv => whnf)
    | (refine cs (fun _ => ?_) (fun _ => ?_) <;> conv => whnf)
  all_goals exact ⟨rfl, rfl⟩
end Go.Proofs.Ytoglfnjankinnaa.E

/- LessenMore: the walk. No conditions. -/
set_option linter.unusedVariables false
set_option linter.unusedSimpArgs false
namespace Go.Proofs.Ytoglfnjankinnaa.E
open Go

theorem sm_none (t : Tm) (h : soundE t = 0) : sameT (leT (atB []) t 0) t = true := by
  obtain ⟨h1, h2⟩ := sound_ok h
  obtain ⟨g1, _⟩ := sound_ok (le_sound (atB []) t 0 h)
  simp only [sameT, h1, g1, decide_true, Bool.true_and]
  exact le_same _ t 0 (tmcheck_right h1) h2 (fun i _ _ => by simp [atB])
theorem sm_all (t : Tm) (l : List Int) (h : soundE t = 0) (hl : ∀ i : Nat, i < tmSp t → (i : Int) ∈ l) : sameT (leT (atB l) t 0) (leT leBT t 0) = true := by
  obtain ⟨h1, h2⟩ := sound_ok h
  rw [le_congr (atB l) leBT t 0 h2 (fun i _ hi => by simp only [atB, leBT]; exact decide_eq_true (hl i (by omega)))]
  obtain ⟨g1, _⟩ := sound_ok (le_sound leBT t 0 h)
  simp only [sameT, g1, decide_true, Bool.true_and]
  exact tmsame_refl _ (tmcheck_right g1)
theorem sm_terms (t : Tm) (l m : List Int) (h : soundE t = 0) : termsS (leT (atB (l ++ m)) t 0) (leT (atB l) t 0) = true := by
  obtain ⟨h1, h2⟩ := sound_ok h
  obtain ⟨g1, g2⟩ := sound_ok (le_sound (atB (l ++ m)) t 0 h)
  obtain ⟨g3, g4⟩ := sound_ok (le_sound (atB l) t 0 h)
  simp only [termsS, g1, g2, g3, g4, decide_true, Bool.true_and, Bool.not_false]
  exact le_terms _ _ (fun i hi => by simp only [atB, decide_eq_true_eq, List.mem_append] at hi ⊢; exact .inl hi) t 0 (tmcheck_right h1) h2
theorem sm_spots (t : Tm) (l : List Int) (h : soundE t = 0) : SpotsS (leT (atB l) t 0) + cntB (atB l) 0 (tmSp t) ≤ tmSp t := by
  rw [SpotsS, if_pos (le_sound (atB l) t 0 h)]
  exact le_spots _ t 0
theorem sm_no (t : Tm) (h : soundE t = 0) : SpotsS (leT leBT t 0) = 0 := by
  rw [SpotsS, if_pos (le_sound leBT t 0 h)]
  exact le_none t 0
theorem cntB_snoc (l : List Int) (s : Nat) (S : Nat) (hs : s < S) : cntB (atB (l ++ [(s : Int)])) 0 S = cntB (atB l) 0 S + if (s : Int) ∈ l then 0 else 1 := by
  have h1 : ∀ n, n ≤ s → cntB (atB (l ++ [(s : Int)])) 0 n = cntB (atB l) 0 n := fun n => by
    induction n with
    | zero => intro _; rfl
    | succ n ih =>
      intro h
      simp only [cntB, ih (by omega), Nat.zero_add]
      have : atB (l ++ [(s : Int)]) n = atB l n := by
        have hne : ¬ ((n : Int) = (s : Int)) := by omega
        simp [atB, hne]
      rw [this]
  have h2 : ∀ d, cntB (atB (l ++ [(s : Int)])) 0 (s + 1 + d) = cntB (atB l) 0 (s + 1 + d) + if (s : Int) ∈ l then 0 else 1 := fun d => by
    induction d with
    | zero =>
      simp only [Nat.add_zero, cntB, h1 s (Nat.le_refl _), Nat.zero_add]
      by_cases hm : (s : Int) ∈ l <;> simp [atB, hm]
    | succ d ih =>
      rw [show s + 1 + (d + 1) = (s + 1 + d) + 1 from rfl]
      simp only [cntB, ih, Nat.zero_add]
      have : atB (l ++ [(s : Int)]) (s + 1 + d) = atB l (s + 1 + d) := by
        have hne : ¬ (((s + 1 + d : Nat) : Int) = (s : Int)) := by omega
        simp only [atB, List.mem_append, List.mem_singleton, hne, or_false]
      rw [this]
      omega
  have := h2 (S - (s + 1))
  rwa [show s + 1 + (S - (s + 1)) = S by omega] at this
theorem cntB_nil (S : Nat) : cntB (atB []) 0 S = 0 := by
  induction S with
  | zero => rfl
  | succ n ih => simp [cntB, ih, atB]
/-- What stands in the row: which spots were met. -/
def metL (l : List Int) (S : Nat) : List Int := (List.range S).map fun i => if ((i : Nat) : Int) ∈ l then 1 else 0
theorem metL_len (l : List Int) (S : Nat) : (metL l S).length = S := by simp [metL]
theorem metL_get (l : List Int) (S i : Nat) (h : i < S) : (metL l S)[i]? = some (if (i : Int) ∈ l then 1 else 0) := by simp [metL, h]
theorem metL_set (l : List Int) (S s : Nat) (h : s < S) : (metL l S).set s 1 = metL (l ++ [(s : Int)]) S := by
  refine List.ext_getElem? fun j => ?_
  rw [List.getElem?_set]
  by_cases hj : s = j
  · subst hj
    rw [if_pos rfl, metL_len, if_pos h, metL_get _ _ _ h]
    simp
  · rw [if_neg hj]
    by_cases hb : j < S
    · rw [metL_get _ _ _ hb, metL_get _ _ _ hb]
      have : ¬ ((j : Int) = (s : Int)) := by omega
      simp [this]
    · rw [List.getElem?_eq_none (by rw [metL_len]; omega), List.getElem?_eq_none (by rw [metL_len]; omega)]
theorem metL_nil (S : Nat) : ints (metL [] S) = List.replicate S [.int .i64 0] := by
  refine List.ext_getElem? fun j => ?_
  by_cases hb : j < S
  · simp [ints, metL, hb, List.getElem?_replicate]
  · rw [List.getElem?_eq_none (by rw [ints_len, metL_len]; omega), List.getElem?_eq_none (by simp; omega)]
/-- The first k are their own numbers. -/
def ranL (l : List Int) (k : Nat) : List Int := (List.range k).map (fun i => ((i : Nat) : Int)) ++ l.drop k
theorem ranL_zero (l : List Int) : ranL l 0 = l := by simp [ranL]
theorem ranL_len (l : List Int) (k : Nat) (h : k ≤ l.length) : (ranL l k).length = l.length := by simp [ranL]; omega
theorem ranL_set (l : List Int) (k : Nat) (h : k < l.length) : (ranL l k).set k (k : Int) = ranL l (k + 1) := by
  unfold ranL
  rw [List.set_append_right _ _ (by simp), List.range_succ, List.map_append, List.append_assoc]
  simp only [List.length_map, List.length_range, Nat.sub_self, List.map_cons, List.map_nil]
  rw [← List.getElem_cons_drop h, List.set_cons_zero]
  rfl
theorem ranL_mem (l : List Int) (k i : Nat) (h : i < k) : (i : Int) ∈ ranL l k := by
  unfold ranL
  refine List.mem_append.2 (.inl (List.mem_map.2 ⟨i, List.mem_range.2 h, rfl⟩))
theorem ranL_in (l : List Int) (k : Nat) (h : l.length = k) : ranL l k = (List.range k).map (fun i => ((i : Nat) : Int)) := by
  unfold ranL
  rw [List.drop_eq_nil_of_le (by omega), List.append_nil]
theorem ints_set (l : List Int) (i : Nat) (x : Int) : (ints l).set i [.int .i64 x] = ints (l.set i x) := by
  unfold ints
  rw [List.map_set]
theorem inSp_ran (S : Nat) : inSp S ((List.range S).map (fun i => ((i : Nat) : Int))) = true := by
  unfold inSp
  rw [List.all_eq_true]
  intro x hx
  obtain ⟨i, hi, rfl⟩ := List.mem_map.1 hx
  have := List.mem_range.1 hi
  simp; omega
end Go.Proofs.Ytoglfnjankinnaa.E
