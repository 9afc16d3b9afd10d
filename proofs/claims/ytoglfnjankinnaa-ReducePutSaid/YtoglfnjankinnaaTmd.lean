/- Plain laws: parts of a term that is one. No conditions. -/
import Derived.Test.YtoglfnjankinnaaTm14
import Derived.Test.YtoglfnjankinnaaTy6
set_option linter.unusedVariables false
set_option linter.unusedSimpArgs false
namespace Go.Proofs.Ytoglfnjankinnaa.E
open Go

theorem tmD_same (t : Tm) : ∀ m, tmD t m < m → tmD t (m + 1) = tmD t m := by
  induction t using Tm.ind with
  | _ k name arg num tk tks uk uks label place ks ih =>
  intro m
  have hs : ∀ (l : List Tm) (m : Nat), (∀ t ∈ l, ∀ m, tmD t m < m → tmD t (m + 1) = tmD t m) → tmDL l m < m → tmDL l (m + 1) = tmDL l m := fun l m => by
    induction l with
    | nil => intro _ _; simp [tmDL]
    | cons x l ihl =>
      intro h hm
      simp only [tmDL] at hm ⊢
      have h1 := h x (by simp) m (by omega)
      have h2 := ihl (fun t ht => h t (by simp [ht])) (by omega)
      omega
  simp only [tmD]
  generalize max (if typeK k = true then tdepth (.node tk tks) else 0) (if toK k = true then tdepth (.node uk uks) else 0) = d
  by_cases h1 : m ≤ 1
  · rw [if_pos h1]; omega
  · rw [if_neg h1, if_neg (by omega)]
    intro hm
    have := hs ks (m - 1) ih (by omega)
    rw [show m - 1 + 1 = m + 1 - 1 by omega] at this
    omega
theorem tmDL_mem : ∀ (ks : List Tm) (t : Tm) (m : Nat), t ∈ ks → tmD t m ≤ tmDL ks m
  | x :: l, t, m, h => by
    simp only [tmDL]
    rcases List.mem_cons.1 h with rfl | h
    · omega
    · have := tmDL_mem l t m h; omega
/-- What the depth of a term says of its kids and types. -/
theorem tmD_parts {k name arg num tk tks uk uks label place ks} (h : tmD (.node k name arg num tk tks uk uks label place ks) 201 ≤ 200) :
    (∀ t ∈ ks, tmD t 201 + 1 ≤ tmD (.node k name arg num tk tks uk uks label place ks) 201) ∧ (typeK k = true → tdepth (.node tk tks) + 1 ≤ tmD (.node k name arg num tk tks uk uks label place ks) 201) ∧ (toK k = true → tdepth (.node uk uks) + 1 ≤ tmD (.node k name arg num tk tks uk uks label place ks) 201) := by
  have e : tmD (.node k name arg num tk tks uk uks label place ks) 201 = min (max (max (if typeK k = true then tdepth (.node tk tks) else 0) (if toK k = true then tdepth (.node uk uks) else 0)) (tmDL ks 200) + 1) 201 := by
    simp only [tmD]
    rw [if_neg (by omega)]
  rw [e] at h ⊢
  refine ⟨fun t ht => ?_, fun q => ?_, fun q => ?_⟩
  · have h1 := tmDL_mem ks t 200 ht
    have h2 : tmD t 200 < 200 → tmD t 201 = tmD t 200 := tmD_same t 200
    omega
  · rw [if_pos q] at h ⊢; omega
  · rw [if_pos q] at h ⊢; omega
theorem tmcheck_parts {t : Tm} (h : tmcheck t = 0) : tmN t ≤ 8192 ∧ tmD t 201 ≤ 200 ∧ tmright t = true := by
  unfold tmcheck at h
  split at h
  · omega
  · split at h
    · omega
    · split at h
      · rename_i h3; exact ⟨by omega, by omega, h3⟩
      · omega
theorem tmcheck_of {t : Tm} (h1 : tmN t ≤ 8192) (h2 : tmD t 201 ≤ 200) (h3 : tmright t = true) : tmcheck t = 0 := by
  unfold tmcheck
  rw [if_neg (by omega), if_neg (by omega), if_pos h3]
theorem tmcheck_kid {k name arg num tk tks uk uks label place ks} (h : tmcheck (.node k name arg num tk tks uk uks label place ks) = 0) {t : Tm} (ht : t ∈ ks) : tmcheck t = 0 := by
  obtain ⟨h1, h2, h3⟩ := tmcheck_parts h
  have h4 := tmN_mem ks t ht
  have h5 := (tmD_parts h2).1 t ht
  simp only [tmN] at h1
  exact tmcheck_of (by omega) (by omega) (tmright_kid h3 ht)
theorem equal_refl (a : Ty) : equalF a a = true := by
  induction a using Ty.ind with
  | _ k ks ih =>
  have : equalL ks ks = true := (equalL_all ks ks rfl).2 fun j x y hx hy => by
    rw [hx] at hy; cases hy; exact ih x (List.mem_of_getElem? hx)
  simp [equalF, this]
theorem tcheck_parts {t : Ty} (h : tcheck t = 0) : nodes t ≤ 8192 ∧ deepF t 201 ≤ 200 ∧ tright t = true := by
  unfold tcheck at h
  split at h
  · omega
  · split at h
    · omega
    · split at h
      · rename_i h3; exact ⟨by omega, by omega, h3⟩
      · omega
theorem sameS_self {a : Ty} (h : tcheck a = 0) : sameS a a = true := by simp [sameS, h, equal_refl]
end Go.Proofs.Ytoglfnjankinnaa.E
