/- What counts of a term: plain laws. No conditions. -/
import Derived.Test.YtoglfnjankinnaaTmd
import Derived.Test.YtoglfnjankinnaaFr6
set_option linter.unusedVariables false
set_option linter.unusedSimpArgs false
namespace Go.Proofs.Ytoglfnjankinnaa.E
open Go

theorem tmbare_N (t : Tm) : tmN (tmbare t) = tmN t := by
  induction t using Tm.ind with
  | _ k name arg num tk tks uk uks label place ks ih =>
  have hs : ∀ l : List Tm, (∀ t ∈ l, tmN (tmbare t) = tmN t) → tmNL (tmbares l) = tmNL l := fun l => by
    induction l with
    | nil => intro _; rfl
    | cons x l il => intro h; simp only [tmbares, tmNL, h x (by simp), il (fun t ht => h t (by simp [ht]))]
  simp only [tmbare, tmN, hs ks ih]
  cases h1 : typeK k <;> cases h2 : toK k <;> simp
theorem tmbare_D (t : Tm) : ∀ m, tmD (tmbare t) m = tmD t m := by
  induction t using Tm.ind with
  | _ k name arg num tk tks uk uks label place ks ih =>
  intro m
  have hs : ∀ (l : List Tm) (m : Nat), (∀ t ∈ l, ∀ m, tmD (tmbare t) m = tmD t m) → tmDL (tmbares l) m = tmDL l m := fun l m => by
    induction l with
    | nil => intro _; rfl
    | cons x l il => intro h; simp only [tmbares, tmDL, h x (by simp), il (fun t ht => h t (by simp [ht]))]
  simp only [tmbare, tmD, hs ks _ ih]
  cases h1 : typeK k <;> cases h2 : toK k <;> simp
theorem tmbare_right (t : Tm) : tmright (tmbare t) = tmright t := by
  induction t using Tm.ind with
  | _ k name arg num tk tks uk uks label place ks ih =>
  have hs : ∀ l : List Tm, (∀ t ∈ l, tmright (tmbare t) = tmright t) → tmrights (tmbares l) = tmrights l := fun l => by
    induction l with
    | nil => intro _; rfl
    | cons x l il => intro h; simp only [tmbares, tmrights, h x (by simp), il (fun t ht => h t (by simp [ht]))]
  simp only [tmbare, tmright, ownRight, hs ks ih, tmbares_len]
  congr 1
  cases h1 : typeK k <;> cases h2 : toK k <;> cases h3 : nameK k <;> cases h4 : argK k <;> cases h5 : decide (k = 15) <;> cases h6 : decide (k = 17) <;> simp
theorem tmbare_check (t : Tm) : tmcheck (tmbare t) = tmcheck t := by
  simp only [tmcheck, tmbare_N, tmbare_D, tmbare_right]
theorem tmbare_twice (t : Tm) : tmbare (tmbare t) = tmbare t := by
  induction t using Tm.ind with
  | _ k name arg num tk tks uk uks label place ks ih =>
  have hs : ∀ l : List Tm, (∀ t ∈ l, tmbare (tmbare t) = tmbare t) → tmbares (tmbares l) = tmbares l := fun l => by
    induction l with
    | nil => intro _; rfl
    | cons x l il => intro h; simp only [tmbares, h x (by simp), il (fun t ht => h t (by simp [ht]))]
  simp only [tmbare, hs ks ih]
  congr 1 <;> (split <;> rfl)
theorem tmright_own {k name arg num tk tks uk uks label place ks} (h : tmright (.node k name arg num tk tks uk uks label place ks) = true) : (typeK k = true → tcheck (.node tk tks) = 0) ∧ (toK k = true → tcheck (.node uk uks) = 0) := by
  simp only [tmright, ownRight, Bool.and_eq_true, Bool.or_eq_true, Bool.not_eq_true', decide_eq_true_eq] at h
  refine ⟨fun q => ?_, fun q => ?_⟩
  · rcases h.1.1.1.2 with e | e
    · rw [q] at e; cases e
    · exact e
  · rcases h.1.1.2 with e | e
    · rw [q] at e; cases e
    · exact e
theorem tmbare_same (t : Tm) : tmright t = true → tmsame t (tmbare t) = true ∧ tmsame (tmbare t) t = true := by
  induction t using Tm.ind with
  | _ k name arg num tk tks uk uks label place ks ih =>
  intro h
  obtain ⟨o1, o2⟩ := tmright_own h
  have hl := tmbares_len ks
  have s1 : tmsames ks (tmbares ks) = true := (tmsames_all ks _ hl.symm).2 fun j x y hx hy => by
    rw [tmbares_get hx] at hy; cases hy
    exact (ih x (List.mem_of_getElem? hx) (tmright_kid h (List.mem_of_getElem? hx))).1
  have s2 : tmsames (tmbares ks) ks = true := (tmsames_all _ ks hl).2 fun j x y hx hy => by
    rw [tmbares_get hy] at hx; cases hx
    exact (ih y (List.mem_of_getElem? hy) (tmright_kid h (List.mem_of_getElem? hy))).2
  simp only [tmbare, tmsame, ownSame, s1, s2]
  cases h1 : typeK k <;> cases h2 : toK k <;> cases h3 : nameK k <;> cases h4 : argK k <;> cases h5 : decide (k = 15) <;> cases h6 : decide (k = 17) <;> cases h7 : decide (k = 1) <;>
    simp_all [sameS_self]
theorem tmbare_fterm (t : Tm) : ∀ m, fterm (tmbare t) m = fterm t m := by
  induction t using Tm.ind with
  | _ k name arg num tk tks uk uks label place ks ih =>
  intro m
  have hs : ∀ (l : List Tm) (w : List (List ByteArray)) (m : FM), (∀ t ∈ l, ∀ m, fterm (tmbare t) m = fterm t m) → fterms (tmbares l) w m = fterms l w m := fun l => by
    induction l with
    | nil => intro _ _ _; rfl
    | cons x l il => intro w m h; simp only [tmbares, fterms, h x (by simp), il _ _ (fun t ht => h t (by simp [ht]))]
  simp only [tmbare, fterm, hs ks _ _ ih]
  have e1 : k = 0 → (if nameK k || decide (k = 15) then name else ⟨#[]⟩) = name := fun e => by subst e; rfl
  have e2 : wsK k (if nameK k || decide (k = 15) then name else ⟨#[]⟩) (if argK k then arg else ⟨#[]⟩) = wsK k name arg := by
    unfold wsK
    by_cases h4 : k = 4
    · subst h4; rfl
    by_cases h5 : k = 5
    · subst h5; rfl
    by_cases h7 : k = 7
    · subst h7; rfl
    by_cases h14 : k = 14
    · subst h14; rfl
    simp only [if_neg h4, if_neg h5, if_neg h7, if_neg h14]
  rw [e2]
  split
  · rename_i h0; rw [e1 h0]
  · rfl
theorem tmbare_free (t : Tm) : freeS (tmbare t) = freeS t := by simp only [freeS, tmbare_check, freeR, tmbare_fterm]
theorem free_len (t : Tm) : (freeS t).length ≤ 1000000 := by
  unfold freeS
  split
  · rename_i h
    have h1 := fterm_len t ((0, []), (0, []))
    have h2 := (tmcheck_ok h).1
    rw [bsort_len]
    simp only [freeR, List.length_map]
    simp only [List.length_nil] at h1
    omega
  · simp
end Go.Proofs.Ytoglfnjankinnaa.E
