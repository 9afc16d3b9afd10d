/- Plain laws: parts of a term that is one; what is beside a cast. No conditions. -/
import Derived.Test.YtoglfnjankinnaaCs8
set_option linter.unusedVariables false
set_option linter.unusedSimpArgs false
namespace Go.Proofs.Ytoglfnjankinnaa.E
open Go

theorem tmD_same (t : Tm) : ∀ m, tmD t m < m → tmD t (m + 1) = tmD t m := by
  induction t using Tm.ind with
  | _ k name arg num tk tks uk uks label place ks ih =>
  intro m
  have hs : ∀ (l : List Tm) (m : Nat), (∀ t ∈ l, ∀ m, tmD t m < m → tmD t (m + 1) = tmD t m) → tmDL l m < m → tmDL l (m + 1) = tmDL l m := fun l m => by
    induction l with
    | nil => intro _ _; simp [tmDL]
    | cons x l ihl =>
      intro h hm
      simp only [tmDL] at hm ⊢
      have h1 := h x (by simp) m (by omega)
      have h2 := ihl (fun t ht => h t (by simp [ht])) (by omega)
      omega
  simp only [tmD]
  generalize max (if typeK k = true then tdepth (.node tk tks) else 0) (if toK k = true then tdepth (.node uk uks) else 0) = d
  by_cases h1 : m ≤ 1
  · rw [if_pos h1]; omega
  · rw [if_neg h1, if_neg (by omega)]
    intro hm
    have := hs ks (m - 1) ih (by omega)
    rw [show m - 1 + 1 = m + 1 - 1 by omega] at this
    omega
theorem tmDL_mem : ∀ (ks : List Tm) (t : Tm) (m : Nat), t ∈ ks → tmD t m ≤ tmDL ks m
  | x :: l, t, m, h => by
    simp only [tmDL]
    rcases List.mem_cons.1 h with rfl | h
    · omega
    · have := tmDL_mem l t m h; omega
/-- What the depth of a term says of its kids and types. -/
theorem tmD_parts {k name arg num tk tks uk uks label place ks} (h : tmD (.node k name arg num tk tks uk uks label place ks) 201 ≤ 200) :
    (∀ t ∈ ks, tmD t 201 + 1 ≤ tmD (.node k name arg num tk tks uk uks label place ks) 201) ∧ (typeK k = true → tdepth (.node tk tks) + 1 ≤ tmD (.node k name arg num tk tks uk uks label place ks) 201) ∧ (toK k = true → tdepth (.node uk uks) + 1 ≤ tmD (.node k name arg num tk tks uk uks label place ks) 201) := by
  have e : tmD (.node k name arg num tk tks uk uks label place ks) 201 = min (max (max (if typeK k = true then tdepth (.node tk tks) else 0) (if toK k = true then tdepth (.node uk uks) else 0)) (tmDL ks 200) + 1) 201 := by
    simp only [tmD]
    rw [if_neg (by omega)]
  rw [e] at h ⊢
  refine ⟨fun t ht => ?_, fun q => ?_, fun q => ?_⟩
  · have h1 := tmDL_mem ks t 200 ht
    have h2 : tmD t 200 < 200 → tmD t 201 = tmD t 200 := tmD_same t 200
    omega
  · rw [if_pos q] at h ⊢; omega
  · rw [if_pos q] at h ⊢; omega
theorem tmcheck_parts {t : Tm} (h : tmcheck t = 0) : tmN t ≤ 8192 ∧ tmD t 201 ≤ 200 ∧ tmright t = true := by
  unfold tmcheck at h
  split at h
  · omega
  · split at h
    · omega
    · split at h
      · rename_i h3; exact ⟨by omega, by omega, h3⟩
      · omega
theorem tmcheck_of {t : Tm} (h1 : tmN t ≤ 8192) (h2 : tmD t 201 ≤ 200) (h3 : tmright t = true) : tmcheck t = 0 := by
  unfold tmcheck
  rw [if_neg (by omega), if_neg (by omega), if_pos h3]
theorem tmcheck_kid {k name arg num tk tks uk uks label place ks} (h : tmcheck (.node k name arg num tk tks uk uks label place ks) = 0) {t : Tm} (ht : t ∈ ks) : tmcheck t = 0 := by
  obtain ⟨h1, h2, h3⟩ := tmcheck_parts h
  have h4 := tmN_mem ks t ht
  have h5 := (tmD_parts h2).1 t ht
  simp only [tmN] at h1
  exact tmcheck_of (by omega) (by omega) (tmright_kid h3 ht)
theorem equal_refl (a : Ty) : equalF a a = true := by
  induction a using Ty.ind with
  | _ k ks ih =>
  have : equalL ks ks = true := (equalL_all ks ks rfl).2 fun j x y hx hy => by
    rw [hx] at hy; cases hy; exact ih x (List.mem_of_getElem? hx)
  simp [equalF, this]
theorem tcheck_parts {t : Ty} (h : tcheck t = 0) : nodes t ≤ 8192 ∧ deepF t 201 ≤ 200 ∧ tright t = true := by
  unfold tcheck at h
  split at h
  · omega
  · split at h
    · omega
    · split at h
      · rename_i h3; exact ⟨by omega, by omega, h3⟩
      · omega
theorem sameS_self {a : Ty} (h : tcheck a = 0) : sameS a a = true := by simp [sameS, h, equal_refl]
theorem deepF_mono (t : Ty) : ∀ m, deepF t m ≤ deepF t (m + 1) := by
  induction t using Ty.ind with
  | _ k ks ih =>
  intro m
  have hl : ∀ (l : List Ty) (m : Nat), (∀ t ∈ l, ∀ m, deepF t m ≤ deepF t (m + 1)) → deepL l m ≤ deepL l (m + 1) := fun l m => by
    induction l with
    | nil => intro _; simp [deepL]
    | cons x l ihl =>
      intro h
      have h1 := h x (by simp) m
      have h2 := ihl fun t ht => h t (by simp [ht])
      simp only [deepL]
      omega
  have := hl ks (m - 1) ih
  simp only [deepF]
  by_cases h1 : m ≤ 1
  · rw [if_pos h1]
    by_cases h0 : m = 0
    · subst h0; simp
    · obtain rfl : m = 1 := by omega
      rw [if_neg (by omega)]
      omega
  · rw [if_neg h1, if_neg (by omega)]
    rw [show m + 1 - 1 = m - 1 + 1 by omega]
    omega
/-- A term in a cast. -/
def castT (t : Tm) (a b : Ty) (label : Int) : Tm := match a, b with
  | .node tk tks, .node uk uks => .node 17 ⟨#[]⟩ ⟨#[]⟩ 0 tk tks uk uks label 0 [t]
def twoT (u t : Tm) : Tm := .node 9 ⟨#[]⟩ ⟨#[]⟩ 0 0 [] 0 [] 0 0 [u, t]
def lamT (a b : Ty) : Tm := .node 4 ⟨#[120]⟩ ⟨#[]⟩ 0 4 [a, b] 0 [] 0 0 [.node 2 ⟨#[]⟩ ⟨#[]⟩ 0 0 [] 0 [] 0 0 []]
theorem cast_types {t : Tm} {a b : Ty} {label : Int} (h : tmcheck (castT t a b label) = 0) : tcheck a = 0 ∧ tcheck b = 0 ∧ tmcheck t = 0 ∧ tmN t + nodes a + nodes b + 1 = tmN (castT t a b label) ∧
    tdepth a + 1 ≤ tmD (castT t a b label) 201 ∧ tdepth b + 1 ≤ tmD (castT t a b label) 201 := by
  obtain ⟨tk, tks⟩ := a
  obtain ⟨uk, uks⟩ := b
  obtain ⟨h1, h2, h3⟩ := tmcheck_parts h
  obtain ⟨_, p2, p3⟩ := tmD_parts h2
  have q : tcheck (.node tk tks) = 0 ∧ tcheck (.node uk uks) = 0 := by
    simp [castT, tmright, ownRight] at h3
    have t1 : typeK 17 = true := rfl
    have t2 : toK 17 = true := rfl
    simp [t1, t2] at h3
    exact ⟨h3.1.1.2, h3.1.2⟩
  have n1 := (tcheck_parts q.1).1
  have n2 := (tcheck_parts q.2).1
  refine ⟨q.1, q.2, tmcheck_kid h (by simp), ?_, p2 rfl, p3 rfl⟩
  simp only [castT, tmN, tmNL]
  rw [if_pos (show typeK 17 = true from rfl), if_pos (show toK 17 = true from rfl)]
  omega
theorem lam_check {t : Tm} {a b : Ty} {label : Int} (h : tmcheck (twoT (castT t a b label) t) = 0) : tmcheck (lamT a b) = 0 := by
  have hu : tmcheck (castT t a b label) = 0 := tmcheck_kid h (by simp)
  obtain ⟨ca, cb, ct, hn, ha, hb⟩ := cast_types hu
  obtain ⟨h1, h2, h3⟩ := tmcheck_parts h
  have h5 := (tmD_parts h2).1 (castT t a b label) (by simp)
  have h6 : tmN (castT t a b label) + tmN t + 1 = tmN (twoT (castT t a b label) t) := by
    simp only [twoT, tmN, tmNL]
    rw [if_neg (by decide), if_neg (by decide)]
    omega
  have h7 := tmN_pos t
  obtain ⟨na, da, ra⟩ := tcheck_parts ca
  obtain ⟨nb, db, rb⟩ := tcheck_parts cb
  have ta : tdepth a = deepF a 201 := by simp only [tdepth]; rw [if_neg (by omega)]
  have tb : tdepth b = deepF b 201 := by simp only [tdepth]; rw [if_neg (by omega)]
  have h2' : tmD (twoT (castT t a b label) t) 201 ≤ 200 := h2
  have h5' : tmD (castT t a b label) 201 + 1 ≤ tmD (twoT (castT t a b label) t) 201 := h5
  have fa : deepF a 200 ≤ deepF a 201 := deepF_mono a 200
  have fb : deepF b 200 ≤ deepF b 201 := deepF_mono b 200
  have dp : deepF (.node 4 [a, b]) 201 = max (deepF a 200) (max (deepF b 200) 0) + 1 := by
    simp only [deepF, deepL]; rw [if_neg (by omega)]
  have np : nodes (.node 4 [a, b]) = 1 + (nodes a + (nodes b + 0)) := by simp only [nodes, nodesL]; omega
  have cp : tcheck (.node 4 [a, b]) = 0 := by
    have rp : tright (.node 4 [a, b]) = true := by simp [tright, trights, parts, ra, rb]
    unfold tcheck
    rw [if_neg (by omega), if_neg (by omega), if_pos rp]
  have tp : tdepth (.node 4 [a, b]) = deepF (.node 4 [a, b]) 201 := by simp only [tdepth]; rw [if_neg (by omega)]
  refine tmcheck_of ?_ ?_ ?_
  · clear h5 h5' h2 h2' ha hb da db dp tp fa fb ta tb cp
    have e : tmN (lamT a b) = 1 + min (nodes (.node 4 [a, b])) 8193 + 0 + (1 + 0 + 0 + 0 + 0) := by
      simp only [lamT, tmN, tmNL]
      rw [if_pos (show typeK 4 = true from rfl), if_neg (show ¬ toK 4 = true by decide), if_neg (show ¬ typeK 2 = true by decide), if_neg (show ¬ toK 2 = true by decide)]
    rw [e]
    generalize nodes (.node 4 [a, b]) = r at *
    generalize nodes a = ra1 at *
    generalize nodes b = rb1 at *
    generalize tmN (castT t a b label) = q1 at *
    generalize tmN (twoT (castT t a b label) t) = q2 at *
    generalize tmN t = q3 at *
    omega
  · clear h5
    have : tmD (lamT a b) 201 = min (max (max (tdepth (.node 4 [a, b])) 0) (tmDL [.node 2 ⟨#[]⟩ ⟨#[]⟩ 0 0 [] 0 [] 0 0 []] (201 - 1)) + 1) 201 := by
      simp only [lamT, tmD]
      rw [if_neg (by omega), if_pos (show typeK 4 = true from rfl), if_neg (show ¬ toK 4 = true by decide)]
    have zz : ∀ m, 2 ≤ m → tmDL [.node 2 ⟨#[]⟩ ⟨#[]⟩ 0 0 [] 0 [] 0 0 []] m = 1 := fun m hm => by
      simp only [tmDL, tmD]
      rw [if_neg (by omega), if_neg (by decide), if_neg (by decide)]
      omega
    have z := zz (201 - 1) (by omega)
    generalize tmDL [.node 2 ⟨#[]⟩ ⟨#[]⟩ 0 0 [] 0 [] 0 0 []] (201 - 1) = dd at *
    generalize tmD (lamT a b) 201 = ll at *
    rw [tp] at this
    omega
  · have hx : nameF ⟨#[120]⟩ = true := by decide +kernel
    have t1 : typeK 4 = true := rfl
    have t2 : toK 4 = false := rfl
    simp [lamT, tmright, tmrights, ownRight, kidsK, nameK, argK, typeK, toK, hx, cp]
/-- The facts that the law CastsWrapped asks. -/
theorem wrapped_facts {t : Tm} {a b : Ty} {label : Int} (h : tmcheck (twoT (castT t a b label) t) = 0) :
    tcastsS (castT t a b label) = (match a, b with | .node tk tks, .node uk uks => Ct.mk tk tks uk uks label) :: tcastsS t ∧ tcastsS (twoT (castT t a b label) t) = tcastsS (castT t a b label) ++ tcastsS t ∧
    tmHeight (castT t a b label) = max (tmHeight t) (tmHeight (lamT a b) - 1) ∧ 1 ≤ tmHeight (lamT a b) ∧ tmEraseS (castT t a b label) = tmEraseS t ∧ sameS a a = true ∧ sameS b b = true := by
  have hu : tmcheck (castT t a b label) = 0 := tmcheck_kid h (by simp)
  obtain ⟨ca, cb, ct, _, _, _⟩ := cast_types hu
  have hl := lam_check h
  refine ⟨?_, ?_, ?_, ?_, ?_, sameS_self ca, sameS_self cb⟩
  · obtain ⟨tk, tks⟩ := a
    obtain ⟨uk, uks⟩ := b
    simp [tcastsS, hu, ct, castT, tcasts, tcastss]
    have hu' := hu
    simp only [castT] at hu'
    simp [hu']
  · have h' := h
    simp only [tcastsS, h, hu, ct, if_true]
    simp [twoT, tcasts, tcastss]
  · simp only [tmHeight, hu, ct, hl, if_true]
    obtain ⟨tk, tks⟩ := a
    obtain ⟨uk, uks⟩ := b
    have e1 : tmH (castT t (.node tk tks) (.node uk uks) label) = max (max (tyH (.node tk tks)) (tyH (.node uk uks))) (max (tmH t) 0) := by
      simp only [castT, tmH, tmHL]
      rw [if_pos (show typeK 17 = true from rfl), if_pos (show toK 17 = true from rfl)]
    have e2 : tmH (lamT (.node tk tks) (.node uk uks)) = 1 + max (tyH (.node tk tks)) (tyH (.node uk uks)) := by
      simp only [lamT, tmH, tmHL, tyH, tyHL]
      rw [if_pos (show typeK 4 = true from rfl), if_neg (show ¬ toK 4 = true by decide), if_neg (show ¬ typeK 2 = true by decide), if_neg (show ¬ toK 2 = true by decide)]
      omega
    rw [e1, e2]
    omega
  · simp only [tmHeight, hl, if_true]
    simp only [lamT, tmH, tmHL, tyH]
    rw [if_pos (show typeK 4 = true from rfl)]
    omega
  · simp only [tmEraseS, hu, ct, if_true]
    obtain ⟨tk, tks⟩ := a
    obtain ⟨uk, uks⟩ := b
    simp [castT, tmerase, tmerases]
end Go.Proofs.Ytoglfnjankinnaa.E
