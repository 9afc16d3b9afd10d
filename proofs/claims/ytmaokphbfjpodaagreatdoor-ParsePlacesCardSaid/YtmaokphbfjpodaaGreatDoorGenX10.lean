/- Texts, merged: Pm3, Pq2, Pq3, Pq4. No conditions. -/
import Derived.Test.YtmaokphbfjpodaaGreatDoorGenX8
import Derived.Test.YtmaokphbfjpodaaGreatDoorGenX9
/- What the parser takes is a term, in plain Lean. No conditions. -/
set_option linter.unusedVariables false
set_option linter.unusedSimpArgs false
set_option linter.unusedSectionVars false
namespace Go.Proofs.YtmaokphbfjpodaaGreatDoor.E
open Go

def Gd {α : Type} (Q : α → Prop) (p : PR α) : Prop := ∀ x j, p = .ok x j → Q x
/-- Words as the scanner makes them. -/
def WsOk (l : List Wd) : Prop := ∀ w ∈ l, (w.kind = 1 → nameF w.text = true) ∧ (w.kind = 2 → 0 ≤ w.num ∧ w.num ≤ 9223372036854775807)
def Good (t : Tm) : Prop := tmright t = true ∧ tmInR t ∧ tmBad t = false
theorem gd_bad {α : Type} {Q : α → Prop} {e a : Int} {w : ByteArray} : Gd Q (.bad e a w : PR α) := fun x j h => by cases h
theorem gd_wbad {α : Type} {Q : α → Prop} {l : List Wd} {i : Nat} : Gd Q (wbad l i : PR α) := gd_bad
theorem gd_ok {α : Type} {Q : α → Prop} {x : α} {j : Nat} (h : Q x) : Gd Q (.ok x j : PR α) := fun y j h => by cases h; assumption
theorem gd_bind {α β : Type} {P : α → Prop} {Q : β → Prop} {p : PR α} {f : α → Nat → PR β} (h : Gd P p) (hf : ∀ x j, P x → Gd Q (f x j)) : Gd Q (bindP p f) := by
  cases p with
  | ok x j => exact hf x j (h x j rfl)
  | bad e a w => exact gd_bad
theorem gd_ite {α : Type} {Q : α → Prop} {P : Prop} [Decidable P] {a b : PR α} (ha : Gd Q a) (hb : Gd Q b) : Gd Q (if P then a else b) := by
  split
  · exact ha
  · exact hb
theorem tmInRs_all : ∀ {ks : List Tm}, (∀ t ∈ ks, tmInR t) → tmInRs ks
  | [], _ => trivial
  | t :: l, h => ⟨h t (by simp), tmInRs_all fun x hx => h x (by simp [hx])⟩
theorem tmBads_all : ∀ {ks : List Tm}, (∀ t ∈ ks, tmBad t = false) → tmBads ks = false
  | [], _ => rfl
  | t :: l, h => by rw [tmBads, h t (List.mem_cons_self ..), tmBads_all fun x hx => h x (List.mem_cons_of_mem _ hx)]; rfl
theorem good_tn {k : Int} {name arg : ByteArray} {num : Int} {a b : Ty} {p : Int} {ks : List Tm} (h1 : kidsK k = ks.length) (h2 : k ≠ 17) (h3 : nameK k = true → nameF name = true) (h4 : argK k = true → nameF arg = true) (h5 : typeK k = true → tcheck a = 0) (h6 : toK k = true → tcheck b = 0)
    (h7 : k = 15 → opF name = true) (h8 : k = 1 → -9223372036854775808 < num) (h9 : -9223372036854775808 ≤ num ∧ num ≤ 9223372036854775807) (h10 : ∀ t ∈ ks, Good t) : Good (tn k name arg num a b p ks) := by
  obtain ⟨tk, tks⟩ := a
  obtain ⟨uk, uks⟩ := b
  refine ⟨?_, ?_, ?_⟩
  · simp only [tn, tmright, ownRight, Bool.and_eq_true, Bool.or_eq_true, Bool.not_eq_true', decide_eq_true_eq, decide_eq_false_iff_not]
    refine ⟨⟨⟨⟨⟨⟨⟨h1, .inl h2⟩, ?_⟩, ?_⟩, ?_⟩, ?_⟩, ?_⟩, (tmrights_all ks).2 fun t ht => (h10 t ht).1⟩
    · cases hq : nameK k <;> simp_all
    · cases hq : argK k <;> simp_all
    · cases hq : typeK k <;> simp_all
    · cases hq : toK k <;> simp_all
    · by_cases hq : k = 15 <;> simp_all
  · exact ⟨h9, tmInRs_all fun t ht => (h10 t ht).2.1⟩
  · simp only [tn, tmBad, Bool.or_eq_false_iff, Bool.and_eq_false_iff, decide_eq_false_iff_not]
    refine ⟨⟨h2, ?_⟩, tmBads_all fun t ht => (h10 t ht).2.2⟩
    by_cases hq : k = 1
    · exact .inr (by have := h8 hq; omega)
    · exact .inl hq
section
variable {l : List Wd} (hl : WsOk l)
include hl
theorem typP_gd (i : Nat) : Gd (fun a => tcheck a = 0) (typP l i) := by
  unfold typP
  intro x j h
  cases hp : tWhole l (l.length + 1) i with
  | bad e a w => rw [hp] at h; cases h
  | ok a q =>
    rw [hp, bindP_ok] at h
    split at h
    · cases h; assumption
    · cases h
theorem mustP_gd (k : Int) (s : ByteArray) (i : Nat) : Gd (fun _ => True) (mustP l k s i) := fun _ _ _ => trivial
theorem nameP_gd (i : Nat) : Gd (fun x => nameF x = true) (nameP l i) := by
  unfold nameP
  split
  · rename_i w hw
    split
    · rename_i hk
      exact gd_ok ((hl w (List.mem_of_getElem? hw)).1 hk)
    · exact gd_wbad
  · exact gd_wbad
theorem numP_gd (p : Int) (i : Nat) : Gd Good (numP l p i) := by
  unfold numP
  split
  · rename_i w hw
    split
    · rename_i hk
      have h := (hl w (List.mem_of_getElem? hw)).2 hk
      refine gd_ok ?_
      rw [wrap64 (by omega) (by omega)]
      exact good_tn rfl (by decide) (fun h => absurd h (by decide)) (fun h => absurd h (by decide)) (fun h => absurd h (by decide)) (fun h => absurd h (by decide)) (fun h => absurd h (by decide)) (fun _ => by omega) ⟨by omega, by omega⟩ (fun t ht => by simp at ht)
    · exact gd_wbad
  · exact gd_wbad
theorem must4_gd (s : ByteArray) (i : Nat) : Gd (fun _ => True) (mustP l 4 s i) := mustP_gd hl 4 s i
theorem must3_gd (s : ByteArray) (i : Nat) : Gd (fun _ => True) (mustP l 3 s i) := mustP_gd hl 3 s i
theorem annP_gd (i : Nat) : Gd (fun x : ByteArray × Ty => nameF x.1 = true ∧ tcheck x.2 = 0) (annP l i) := by
  unfold annP
  repeat' first | with_reducible exact gd_bad | with_reducible exact gd_wbad | (with_reducible refine gd_ok ?_) | (with_reducible refine gd_bind (must4_gd hl _ _) (fun x j hx => ?_)) | (with_reducible refine gd_bind (must3_gd hl _ _) (fun x j hx => ?_)) | (with_reducible refine gd_bind (nameP_gd hl _) (fun x j hx => ?_)) | (with_reducible refine gd_bind (typP_gd hl _) (fun x j hx => ?_)) | (with_reducible refine gd_bind (numP_gd hl _ _) (fun x j hx => ?_)) | with_reducible exact must4_gd hl _ _ | with_reducible exact must3_gd hl _ _ | with_reducible exact nameP_gd hl _ | with_reducible exact typP_gd hl _ | with_reducible exact numP_gd hl _ _ | (with_reducible refine gd_ite ?_ ?_) | exact ⟨by assumption, by assumption⟩
theorem isLoop_gd : ∀ (n : Nat) (t : Tm) (i : Nat), Good t → Gd Good (isLoop l n t i)
  | 0, t, i, ht => gd_ok ht
  | n + 1, t, i, ht => by
    unfold isLoop
    refine gd_ite (gd_bind (typP_gd hl _) fun a j ha => isLoop_gd n _ _ ?_) (gd_ok ht)
    (apply good_tn <;> first | rfl | decide | (intro h; exact absurd h (by decide)) | (intro _; simp_all; done) | (intro t ht; simp at ht; rcases ht with rfl | rfl | rfl <;> simp_all; done) | (intro t ht; simp at ht; rcases ht with rfl | rfl <;> simp_all; done) | (intro t ht; simp at ht; subst ht; simp_all; done) | (intro t ht; simp at ht; done))
theorem opP_gd {part : Nat → PR Tm} (hp : ∀ i, Gd Good (part i)) {t : Tm} (ht : Good t) {i : Nat} (ho : opF (textW l i) = true) : Gd Good (opP l part t i) := by
  unfold opP
  refine gd_bind (hp _) fun u j hu => gd_ok ?_
  (apply good_tn <;> first | rfl | decide | (intro h; exact absurd h (by decide)) | (intro _; simp_all; done) | (intro t ht; simp at ht; rcases ht with rfl | rfl | rfl <;> simp_all; done) | (intro t ht; simp at ht; rcases ht with rfl | rfl <;> simp_all; done) | (intro t ht; simp at ht; subst ht; simp_all; done) | (intro t ht; simp at ht; done))
theorem isOp_text {ops : List ByteArray} {i : Nat} (h : isOp l ops i = true) (hs : ∀ s ∈ ops, opF s = true) : opF (textW l i) = true := by
  simp only [isOp, List.any_eq_true] at h
  obtain ⟨s, hm, h⟩ := h
  unfold tkW at h
  unfold textW
  cases hg : l[i]? with
  | none => rw [hg] at h; cases h
  | some w =>
    rw [hg] at h
    simp only [Bool.and_eq_true, decide_eq_true_eq] at h
    simp only
    rw [h.2]; exact hs s hm
theorem opLoop_gd {part : Nat → PR Tm} (hp : ∀ i, Gd Good (part i)) {ops : List ByteArray} (hs : ∀ s ∈ ops, opF s = true) : ∀ (n : Nat) (t : Tm) (i : Nat), Good t → Gd Good (opLoop l part ops n t i)
  | 0, t, i, ht => gd_ok ht
  | n + 1, t, i, ht => by
    unfold opLoop
    split
    · rename_i h
      exact gd_bind (opP_gd hl hp ht (isOp_text hl h hs)) fun u j hu => opLoop_gd hp hs n u j hu
    · exact gd_ok ht
theorem pAtom_gd {W : Nat → PR Tm} (hW : ∀ i, Gd Good (W i)) (i : Nat) : Gd Good (pAtom l W i) := by
  unfold pAtom
  split
  · exact gd_wbad
  · rename_i w hw
    have hwk := hl w (List.mem_of_getElem? hw)
    by_cases h2 : w.kind = 2
    · rw [if_pos h2]
      have h := hwk.2 h2
      exact gd_ok (good_tn rfl (by decide) (fun h => absurd h (by decide)) (fun h => absurd h (by decide)) (fun h => absurd h (by decide)) (fun h => absurd h (by decide)) (fun h => absurd h (by decide)) (fun _ => by omega) ⟨by omega, by omega⟩ (fun t ht => by simp at ht))
    · rw [if_neg h2]
      by_cases h1 : w.kind = 1
      · rw [if_pos h1]
        have h := hwk.1 h1
        exact gd_ok (good_tn rfl (by decide) (fun _ => h) (fun h => absurd h (by decide)) (fun h => absurd h (by decide)) (fun h => absurd h (by decide)) (fun h => absurd h (by decide)) (fun h => absurd h (by decide)) (by decide) (fun t ht => by simp at ht))
      · rw [if_neg h1]
        clear hwk h1 h2
        repeat' first | with_reducible exact gd_bad | with_reducible exact gd_wbad | (with_reducible refine gd_ok ?_) | (with_reducible refine gd_bind (hW _) (fun x j hx => ?_)) | (with_reducible refine gd_bind (must4_gd hl _ _) (fun x j hx => ?_)) | (with_reducible refine gd_bind (must3_gd hl _ _) (fun x j hx => ?_)) | (with_reducible refine gd_bind (nameP_gd hl _) (fun x j hx => ?_)) | (with_reducible refine gd_bind (typP_gd hl _) (fun x j hx => ?_)) | (with_reducible refine gd_bind (numP_gd hl _ _) (fun x j hx => ?_)) | with_reducible exact hW _ | with_reducible exact must4_gd hl _ _ | with_reducible exact must3_gd hl _ _ | with_reducible exact nameP_gd hl _ | with_reducible exact typP_gd hl _ | with_reducible exact numP_gd hl _ _ | (with_reducible refine gd_ite ?_ ?_) | assumption | (apply good_tn <;> first | rfl | decide | (intro h; exact absurd h (by decide)) | (intro _; simp_all; done) | (intro t ht; simp at ht; rcases ht with rfl | rfl | rfl <;> simp_all; done) | (intro t ht; simp at ht; rcases ht with rfl | rfl <;> simp_all; done) | (intro t ht; simp at ht; subst ht; simp_all; done) | (intro t ht; simp at ht; done))
theorem appLoop_gd {W : Nat → PR Tm} (hW : ∀ i, Gd Good (W i)) : ∀ (n : Nat) (t : Tm) (i : Nat), Good t → Gd Good (appLoop l W n t i)
  | 0, t, i, ht => gd_ok ht
  | n + 1, t, i, ht => by
    unfold appLoop
    refine gd_ite (gd_bind (hW _) fun a j ha => gd_bind (must4_gd hl _ _) fun _ j _ => appLoop_gd hW n _ _ ?_) (gd_ok ht)
    (apply good_tn <;> first | rfl | decide | (intro h; exact absurd h (by decide)) | (intro _; simp_all; done) | (intro t ht; simp at ht; rcases ht with rfl | rfl | rfl <;> simp_all; done) | (intro t ht; simp at ht; rcases ht with rfl | rfl <;> simp_all; done) | (intro t ht; simp at ht; subst ht; simp_all; done) | (intro t ht; simp at ht; done))
theorem inP_gd {un : Nat → PR Tm} (hu : ∀ i, Gd Good (un i)) (k : Int) (hk : k = 12 ∨ k = 13) (p : Int) (i : Nat) : Gd Good (inP l un k p i) := by
  unfold inP
  rcases hk with rfl | rfl
  all_goals
    repeat' first | with_reducible exact gd_bad | with_reducible exact gd_wbad | (with_reducible refine gd_ok ?_) | (with_reducible refine gd_bind (hu _) (fun x j hx => ?_)) | (with_reducible refine gd_bind (must4_gd hl _ _) (fun x j hx => ?_)) | (with_reducible refine gd_bind (must3_gd hl _ _) (fun x j hx => ?_)) | (with_reducible refine gd_bind (nameP_gd hl _) (fun x j hx => ?_)) | (with_reducible refine gd_bind (typP_gd hl _) (fun x j hx => ?_)) | (with_reducible refine gd_bind (numP_gd hl _ _) (fun x j hx => ?_)) | with_reducible exact hu _ | with_reducible exact must4_gd hl _ _ | with_reducible exact must3_gd hl _ _ | with_reducible exact nameP_gd hl _ | with_reducible exact typP_gd hl _ | with_reducible exact numP_gd hl _ _ | (with_reducible refine gd_ite ?_ ?_) | (apply good_tn <;> first | rfl | decide | (intro h; exact absurd h (by decide)) | (intro _; simp_all; done) | (intro t ht; simp at ht; rcases ht with rfl | rfl | rfl <;> simp_all; done) | (intro t ht; simp at ht; rcases ht with rfl | rfl <;> simp_all; done) | (intro t ht; simp at ht; subst ht; simp_all; done) | (intro t ht; simp at ht; done))
theorem pUn_gd {W : Nat → PR Tm} (hW : ∀ i, Gd Good (W i)) : ∀ (m i : Nat), Gd Good (pUn l W m i)
  | 0, i => gd_wbad
  | m + 1, i => by
    have ih := pUn_gd hW m
    unfold pUn
    refine gd_ite (gd_bind (ih _) fun t j ht => gd_ok ?_) (gd_ite (gd_bind (ih _) fun t j ht => gd_ok ?_) (gd_ite (inP_gd hl ih 12 (.inl rfl) _ _) (gd_ite (inP_gd hl ih 13 (.inr rfl) _ _) (gd_ite (numP_gd hl _ _) (gd_bind (pAtom_gd hl hW _) fun t j ht => appLoop_gd hl hW _ t j ht)))))
    · (apply good_tn <;> first | rfl | decide | (intro h; exact absurd h (by decide)) | (intro _; simp_all; done) | (intro t ht; simp at ht; rcases ht with rfl | rfl | rfl <;> simp_all; done) | (intro t ht; simp at ht; rcases ht with rfl | rfl <;> simp_all; done) | (intro t ht; simp at ht; subst ht; simp_all; done) | (intro t ht; simp at ht; done))
    · (apply good_tn <;> first | rfl | decide | (intro h; exact absurd h (by decide)) | (intro _; simp_all; done) | (intro t ht; simp at ht; rcases ht with rfl | rfl | rfl <;> simp_all; done) | (intro t ht; simp at ht; rcases ht with rfl | rfl <;> simp_all; done) | (intro t ht; simp at ht; subst ht; simp_all; done) | (intro t ht; simp at ht; done))
theorem pIs_gd {W : Nat → PR Tm} (hW : ∀ i, Gd Good (W i)) (i : Nat) : Gd Good (pIs l W i) := by
  have hu : ∀ i, Gd Good (pU l W i) := fun i => pUn_gd hl hW _ i
  have hm : ∀ i, Gd Good (pMul l W i) := fun i => gd_bind (hu i) fun t j hj => opLoop_gd hl hu (by decide) _ t j hj
  have hs : ∀ i, Gd Good (pSum l W i) := fun i => gd_bind (hm i) fun t j hj => opLoop_gd hl hm (by decide) _ t j hj
  have hc : ∀ i, Gd Good (pCmp l W i) := fun i => gd_bind (hs i) fun t j hj => by
    split
    · rename_i h; exact opP_gd hl hs hj (isOp_text hl h (by decide))
    · exact gd_ok hj
  exact gd_bind (hc i) fun t j hj => isLoop_gd hl _ t j hj
theorem branchP_gd {W : Nat → PR Tm} (hW : ∀ i, Gd Good (W i)) (i : Nat) : Gd (fun x : ByteArray × Tm => nameF x.1 = true ∧ Good x.2) (branchP l W i) := by
  unfold branchP
  repeat' first | with_reducible exact gd_bad | with_reducible exact gd_wbad | (with_reducible refine gd_ok ?_) | (with_reducible refine gd_bind (hW _) (fun x j hx => ?_)) | (with_reducible refine gd_bind (must4_gd hl _ _) (fun x j hx => ?_)) | (with_reducible refine gd_bind (must3_gd hl _ _) (fun x j hx => ?_)) | (with_reducible refine gd_bind (nameP_gd hl _) (fun x j hx => ?_)) | (with_reducible refine gd_bind (typP_gd hl _) (fun x j hx => ?_)) | (with_reducible refine gd_bind (numP_gd hl _ _) (fun x j hx => ?_)) | with_reducible exact hW _ | with_reducible exact must4_gd hl _ _ | with_reducible exact must3_gd hl _ _ | with_reducible exact nameP_gd hl _ | with_reducible exact typP_gd hl _ | with_reducible exact numP_gd hl _ _ | (with_reducible refine gd_ite ?_ ?_) | exact ⟨by assumption, by assumption⟩
theorem pStep_gd {W : Nat → PR Tm} (hW : ∀ i, Gd Good (W i)) (i : Nat) : Gd Good (pStep l W i) := by
  unfold pStep lamP letP ifP recP caseP
  repeat' first | with_reducible exact gd_bad | with_reducible exact gd_wbad | (with_reducible refine gd_ok ?_) | (with_reducible refine gd_bind (hW _) (fun x j hx => ?_)) | (with_reducible refine gd_bind (annP_gd hl _) (fun x j hx => ?_)) | (with_reducible refine gd_bind (branchP_gd hl hW _) (fun x j hx => ?_)) | (with_reducible refine gd_bind (pIs_gd hl hW _) (fun x j hx => ?_)) | (with_reducible refine gd_bind (must4_gd hl _ _) (fun x j hx => ?_)) | (with_reducible refine gd_bind (must3_gd hl _ _) (fun x j hx => ?_)) | (with_reducible refine gd_bind (nameP_gd hl _) (fun x j hx => ?_)) | (with_reducible refine gd_bind (typP_gd hl _) (fun x j hx => ?_)) | (with_reducible refine gd_bind (numP_gd hl _ _) (fun x j hx => ?_)) | with_reducible exact hW _ | with_reducible exact annP_gd hl _ | with_reducible exact branchP_gd hl hW _ | with_reducible exact pIs_gd hl hW _ | with_reducible exact must4_gd hl _ _ | with_reducible exact must3_gd hl _ _ | with_reducible exact nameP_gd hl _ | with_reducible exact typP_gd hl _ | with_reducible exact numP_gd hl _ _ | (with_reducible refine gd_ite ?_ ?_) | (apply good_tn <;> first | rfl | decide | (intro h; exact absurd h (by decide)) | (intro _; simp_all; done) | (intro t ht; simp at ht; rcases ht with rfl | rfl | rfl <;> simp_all; done) | (intro t ht; simp at ht; rcases ht with rfl | rfl <;> simp_all; done) | (intro t ht; simp at ht; subst ht; simp_all; done) | (intro t ht; simp at ht; done))
theorem pTerm_gd : ∀ (n i : Nat), Gd Good (pTerm l n i)
  | 0, i => gd_wbad
  | n + 1, i => pStep_gd hl (pTerm_gd n) i
end
end Go.Proofs.YtmaokphbfjpodaaGreatDoor.E

/- Where a term's words stand among the words read. No conditions. -/
set_option linter.unusedVariables false
set_option linter.unusedSimpArgs false
set_option linter.unusedSectionVars false
namespace Go.Proofs.YtmaokphbfjpodaaGreatDoor.E
open Go

/-- The word that heads a term of this kind. -/
def headW (k : Int) (name : ByteArray) (num : Int) (w : Wd) : Prop :=
  if k = 0 then w.text = name else if k = 1 then (w.kind = 2 ∧ w.num = num) ∨ (w.text = ⟨#[45]⟩ ∧ num ≤ 0) else if k = 2 then w.text = ⟨#[116, 114, 117, 101]⟩ else if k = 3 then w.text = ⟨#[102, 97, 108, 115, 101]⟩
  else if k = 4 then w.text = ⟨#[92]⟩ else if k = 5 then w.text = ⟨#[114, 101, 99]⟩ else if k = 6 then w.text = ⟨#[40]⟩ else if k = 7 then w.text = ⟨#[108, 101, 116]⟩ else if k = 8 then w.text = ⟨#[105, 102]⟩
  else if k = 9 then w.text = ⟨#[91]⟩ else if k = 10 then w.text = ⟨#[102, 115, 116]⟩ else if k = 11 then w.text = ⟨#[115, 110, 100]⟩ else if k = 12 then w.text = ⟨#[105, 110, 108]⟩ else if k = 13 then w.text = ⟨#[105, 110, 114]⟩
  else if k = 14 then w.text = ⟨#[99, 97, 115, 101]⟩ else if k = 15 then w.text = name else if k = 16 then w.text = ⟨#[58]⟩ else False
/-- The places of a term are those of these words. -/
inductive Ix (l : List Wd) : Tm → List Nat → Prop where
  | mk {k : Int} {name arg : ByteArray} {num tk : Int} {tks : List Ty} {uk : Int} {uks : List Ty} {label : Int} {ks : List Tm} {q : Nat} {w : Wd} {Js : List (List Nat)} (hw : l[q]? = some w) (hh : headW k name num w) (hl : ks.length = Js.length)
      (hk : ∀ (n : Nat) (t : Tm) (J : List Nat), ks[n]? = some t → Js[n]? = some J → Ix l t J) : Ix l (.node k name arg num tk tks uk uks label w.place ks) (q :: Js.flatten)
/-- All within, each once. -/
def In2 (i j : Nat) (I : List Nat) : Prop := I.Nodup ∧ ∀ q ∈ I, i ≤ q ∧ q < j
def Tp (l : List Wd) (i j : Nat) (t : Tm) : Prop := ∃ I, Ix l t I ∧ In2 i j I
theorem ix_tn {l : List Wd} {k : Int} {name arg : ByteArray} {num : Int} {a b : Ty} {q : Nat} {w : Wd} {ks : List Tm} {Js : List (List Nat)} (hw : l[q]? = some w) (hh : headW k name num w) (hl : ks.length = Js.length) (hk : ∀ (n : Nat) (t : Tm) (J : List Nat), ks[n]? = some t → Js[n]? = some J → Ix l t J) : Ix l (tn k name arg num a b w.place ks) (q :: Js.flatten) := by
  obtain ⟨tk, tks⟩ := a
  obtain ⟨uk, uks⟩ := b
  exact .mk hw hh hl hk
theorem in2_app {a b c d : Nat} {I J : List Nat} (h : In2 a b I) (g : In2 c d J) (hbc : b ≤ c) (hab : a ≤ b) (hcd : c ≤ d) : In2 a d (I ++ J) := by
  refine ⟨List.nodup_append.2 ⟨h.1, g.1, fun x hx y hy e => ?_⟩, fun q hq => ?_⟩
  · have h1 := h.2 x hx
    have h2 := g.2 y hy
    omega
  · rcases List.mem_append.1 hq with hq | hq
    · have := h.2 q hq; omega
    · have := g.2 q hq; omega
theorem in2_cons {a b i j q : Nat} {I : List Nat} (h : ∀ x ∈ I, x ≠ q) (hn : I.Nodup) (hI : ∀ x ∈ I, i ≤ x ∧ x < j) (hq : i ≤ q ∧ q < j) : In2 i j (q :: I) := by
  refine ⟨List.nodup_cons.2 ⟨fun hm => h q hm rfl, hn⟩, fun x hx => ?_⟩
  rcases List.mem_cons.1 hx with rfl | hx
  · exact hq
  · exact hI x hx
theorem tp0 {l : List Wd} {k : Int} {name arg : ByteArray} {num : Int} {a b : Ty} {q i j : Nat} {w : Wd} (hw : l[q]? = some w) (hh : headW k name num w) (hq : i ≤ q ∧ q < j) : Tp l i j (tn k name arg num a b w.place []) :=
  ⟨[q], ix_tn (Js := []) hw hh rfl (fun n t J h => by simp at h), in2_cons (a := 0) (b := 0) (by simp) (by simp) (by simp) hq⟩
theorem tp1 {l : List Wd} {k : Int} {name arg : ByteArray} {num : Int} {a b : Ty} {q i j c d : Nat} {w : Wd} {t : Tm} (hw : l[q]? = some w) (hh : headW k name num w) (hq : i ≤ q ∧ q < j) (ht : Tp l c d t) (h1 : i ≤ c ∧ d ≤ j) (h2 : q < c ∨ d ≤ q) : Tp l i j (tn k name arg num a b w.place [t]) := by
  obtain ⟨I, g1, g2, g3⟩ := ht
  refine ⟨q :: [I].flatten, ix_tn (Js := [I]) hw hh rfl (fun n t J h h' => ?_), ?_⟩
  · cases n with
    | zero => simp at h h'; subst h; subst h'; exact g1
    | succ n => simp at h
  · rw [show [I].flatten = I by simp]
    exact in2_cons (a := 0) (b := 0) (fun x hx => by have := g3 x hx; omega) g2 (fun x hx => by have := g3 x hx; omega) hq
theorem tp2 {l : List Wd} {k : Int} {name arg : ByteArray} {num : Int} {a b : Ty} {q i j c d c' d' : Nat} {w : Wd} {t t' : Tm} (hw : l[q]? = some w) (hh : headW k name num w) (hq : i ≤ q ∧ q < j) (ht : Tp l c d t) (ht' : Tp l c' d' t') (h1 : i ≤ c ∧ c ≤ d ∧ d ≤ c' ∧ c' ≤ d' ∧ d' ≤ j) (h2 : q < c ∨ d ≤ q) (h3 : q < c' ∨ d' ≤ q) : Tp l i j (tn k name arg num a b w.place [t, t']) := by
  obtain ⟨I, g1, g2⟩ := ht
  obtain ⟨I', g1', g2'⟩ := ht'
  have g := in2_app g2 g2' h1.2.2.1 h1.2.1 h1.2.2.2.1
  refine ⟨q :: [I, I'].flatten, ix_tn (Js := [I, I']) hw hh rfl (fun n t J h h' => ?_), ?_⟩
  · match n with
    | 0 => simp at h h'; subst h; subst h'; exact g1
    | 1 => simp at h h'; subst h; subst h'; exact g1'
    | n + 2 => simp at h
  · rw [show [I, I'].flatten = I ++ I' by simp]
    refine in2_cons (a := 0) (b := 0) (fun x hx => ?_) g.1 (fun x hx => by have := g.2 x hx; omega) hq
    rcases List.mem_append.1 hx with hx | hx
    · have := g2.2 x hx; omega
    · have := g2'.2 x hx; omega
theorem tp3 {l : List Wd} {k : Int} {name arg : ByteArray} {num : Int} {a b : Ty} {q i j c d c' d' c2 d2 : Nat} {w : Wd} {t t' t2 : Tm} (hw : l[q]? = some w) (hh : headW k name num w) (hq : i ≤ q ∧ q < j) (ht : Tp l c d t) (ht' : Tp l c' d' t') (ht2 : Tp l c2 d2 t2) (h1 : i ≤ c ∧ c ≤ d ∧ d ≤ c' ∧ c' ≤ d' ∧ d' ≤ c2 ∧ c2 ≤ d2 ∧ d2 ≤ j) (h2 : q < c) : Tp l i j (tn k name arg num a b w.place [t, t', t2]) := by
  obtain ⟨I, g1, g2⟩ := ht
  obtain ⟨I', g1', g2'⟩ := ht'
  obtain ⟨I2, g12, g22⟩ := ht2
  have g := in2_app (in2_app g2 g2' (by omega) (by omega) (by omega)) g22 (by omega) (by omega) (by omega)
  refine ⟨q :: [I, I', I2].flatten, ix_tn (Js := [I, I', I2]) hw hh rfl (fun n t J h h' => ?_), ?_⟩
  · match n with
    | 0 => simp at h h'; subst h; subst h'; exact g1
    | 1 => simp at h h'; subst h; subst h'; exact g1'
    | 2 => simp at h h'; subst h; subst h'; exact g12
    | n + 3 => simp at h
  · rw [show [I, I', I2].flatten = I ++ I' ++ I2 by simp]
    exact in2_cons (a := 0) (b := 0) (fun x hx => by have := g.2 x hx; omega) g.1 (fun x hx => by have := g.2 x hx; omega) hq
end Go.Proofs.YtmaokphbfjpodaaGreatDoor.E

/- How far the reader goes: indices alone. No conditions. -/
set_option linter.unusedVariables false
set_option linter.unusedSimpArgs false
set_option linter.unusedSectionVars false
namespace Go.Proofs.YtmaokphbfjpodaaGreatDoor.E
open Go

def Pj {α : Type} (b : Nat) (Q : α → Nat → Prop) (p : PR α) : Prop := ∀ x j, p = .ok x j → b ≤ j ∧ Q x j
theorem pj_bad {α : Type} {b : Nat} {Q : α → Nat → Prop} {e a : Int} {w : ByteArray} : Pj b Q (.bad e a w : PR α) := fun x j h => by cases h
theorem pj_wbad {α : Type} {b : Nat} {Q : α → Nat → Prop} {l : List Wd} {i : Nat} : Pj b Q (wbad l i : PR α) := pj_bad
theorem pj_ok {α : Type} {b : Nat} {Q : α → Nat → Prop} {x : α} {j : Nat} (h : b ≤ j) (g : Q x j) : Pj b Q (.ok x j : PR α) := fun y q h => by cases h; exact ⟨by assumption, by assumption⟩
theorem pj_bind {α β : Type} {b c : Nat} {P : α → Nat → Prop} {Q : β → Nat → Prop} {p : PR α} {f : α → Nat → PR β} (h : Pj b P p) (hf : ∀ x j, b ≤ j → P x j → Pj c Q (f x j)) : Pj c Q (bindP p f) := by
  cases p with
  | ok x j => have := h x j rfl; exact hf x j this.1 this.2
  | bad e a w => exact pj_bad
theorem Pj.mono {α : Type} {b c : Nat} {P Q : α → Nat → Prop} {p : PR α} (h : Pj b P p) (hc : c ≤ b) (hq : ∀ x j, b ≤ j → P x j → Q x j) : Pj c Q p := fun x j e => by
  have := h x j e
  exact ⟨by omega, hq x j this.1 this.2⟩
def TT {α : Type} : α → Nat → Prop := fun _ _ => True
section
variable {l : List Wd}
theorem tk_word {i : Nat} {k : Int} {s : ByteArray} (h : tkW l i k s = true) : ∃ w, l[i]? = some w ∧ w.kind = k ∧ w.text = s := by
  unfold tkW at h
  cases hg : l[i]? with
  | none => rw [hg] at h; cases h
  | some w =>
    rw [hg] at h
    simp only [Bool.and_eq_true, decide_eq_true_eq] at h
    exact ⟨w, rfl, h.1, h.2⟩
theorem pj_tk {α : Type} {b : Nat} {Q : α → Nat → Prop} {i : Nat} {k : Int} {s : ByteArray} {a c : PR α} (ha : ∀ w, l[i]? = some w → w.kind = k → w.text = s → placeW l i = w.place → Pj b Q a) (hc : Pj b Q c) : Pj b Q (if tkW l i k s = true then a else c) := by
  split
  · rename_i h
    obtain ⟨w, h1, h2, h3⟩ := tk_word h
    exact ha w h1 h2 h3 (by unfold placeW; rw [h1])
  · exact hc
theorem tLoop_pj {part : Nat → PR Ty} (hp : ∀ i, Pj (i + 1) TT (part i)) (k : Int) (s : ByteArray) : ∀ (n : Nat) (a : Ty) (i : Nat), Pj i TT (tLoop l part k s n a i)
  | 0, a, i => pj_ok (Nat.le_refl _) trivial
  | n + 1, a, i => by
    unfold tLoop
    exact pj_tk (fun w _ _ _ _ => pj_bind (hp _) fun x j hj _ => (tLoop_pj hp k s n _ _).mono (by omega) fun _ _ _ _ => trivial) (pj_ok (Nat.le_refl _) trivial)
theorem tAtom_pj {W : Nat → PR Ty} (hW : ∀ i, Pj (i + 1) TT (W i)) (i : Nat) : Pj (i + 1) TT (tAtom l W i) := by
  unfold tAtom
  refine pj_tk (fun w _ _ _ _ => pj_ok (Nat.le_refl _) trivial) (pj_tk (fun w _ _ _ _ => pj_ok (Nat.le_refl _) trivial) (pj_tk (fun w _ _ _ _ => pj_ok (Nat.le_refl _) trivial) (pj_tk (fun w _ _ _ _ => pj_bind (hW _) fun x j hj _ => pj_tk (fun w _ _ _ _ => pj_ok (by omega) trivial) pj_wbad) pj_wbad)))
theorem tLeft_pj {part : Nat → PR Ty} (hp : ∀ i, Pj (i + 1) TT (part i)) (k : Int) (s : ByteArray) (i : Nat) : Pj (i + 1) TT (tLeft l part k s i) := by
  unfold tLeft
  exact pj_bind (hp i) fun x j hj _ => (tLoop_pj hp k s _ _ _).mono hj fun _ _ _ _ => trivial
theorem tWhole_pj : ∀ (n i : Nat), Pj (i + 1) TT (tWhole l n i)
  | 0, i => pj_wbad
  | n + 1, i => by
    unfold tWhole
    exact pj_bind (tLeft_pj (fun i => tLeft_pj (fun i => tAtom_pj (tWhole_pj n) i) _ _ i) _ _ i) fun x j hj _ => pj_tk (fun w _ _ _ _ => pj_bind (tWhole_pj n _) fun y q hq _ => pj_ok (by omega) trivial) (pj_ok hj trivial)
theorem typP_pj (i : Nat) : Pj (i + 1) TT (typP l i) := by
  unfold typP
  refine pj_bind (tWhole_pj _ i) fun x j hj _ => ?_
  split
  · exact pj_ok hj trivial
  · exact pj_bad
theorem mustP_pj (k : Int) (s : ByteArray) (i : Nat) : Pj (i + 1) TT (mustP l k s i) := by
  unfold mustP
  exact pj_tk (fun w _ _ _ _ => pj_ok (Nat.le_refl _) trivial) pj_wbad
theorem nameP_pj (i : Nat) : Pj (i + 1) TT (nameP l i) := by
  unfold nameP
  split
  · split
    · exact pj_ok (Nat.le_refl _) trivial
    · exact pj_wbad
  · exact pj_wbad
theorem annP_pj (i : Nat) : Pj (i + 1) TT (annP l i) := by
  unfold annP
  exact pj_bind (nameP_pj i) fun x j hj _ => pj_bind (mustP_pj _ _ _) fun _ j hj _ => pj_bind (typP_pj _) fun a j hj _ => pj_ok (by omega) trivial
end
end Go.Proofs.YtmaokphbfjpodaaGreatDoor.E

/- The places of what is read. No conditions. -/
set_option linter.unusedVariables false
set_option linter.unusedSimpArgs false
set_option linter.unusedSectionVars false
namespace Go.Proofs.YtmaokphbfjpodaaGreatDoor.E
open Go

theorem Tp.wide {l : List Wd} {i j i' j' : Nat} {t : Tm} (h : Tp l i j t) (h1 : i' ≤ i) (h2 : j ≤ j') : Tp l i' j' t := by
  obtain ⟨I, g1, g2, g3⟩ := h
  exact ⟨I, g1, g2, fun q hq => by have := g3 q hq; omega⟩
section
variable {l : List Wd} (hl : WsOk l)
include hl
theorem numP_pj {i : Nat} {w : Wd} (hw : l[i]? = some w) (ht : w.text = ⟨#[45]⟩) : Pj (i + 2) (fun t j => Tp l i j t) (numP l w.place (i + 1)) := by
  unfold numP
  split
  · rename_i v hv
    split
    · rename_i hk
      have h := (hl v (List.mem_of_getElem? hv)).2 hk
      refine pj_ok (by omega) ?_
      rw [wrap64 (by omega) (by omega)]
      exact tp0 hw (show headW 1 _ _ w from .inr ⟨ht, by omega⟩) (by omega)
    · exact pj_wbad
  · exact pj_wbad
theorem isLoop_pj {b : Nat} : ∀ (n : Nat) (t : Tm) (i : Nat), b ≤ i → Tp l b i t → Pj i (fun t j => Tp l b j t) (isLoop l n t i)
  | 0, t, i, hb, ht => pj_ok (Nat.le_refl _) ht
  | n + 1, t, i, hb, ht => by
    unfold isLoop
    refine pj_tk (fun w hw hk hx hp => ?_) (pj_ok (Nat.le_refl _) ht)
    rw [hp]
    exact pj_bind (typP_pj _) fun a j hj _ => (isLoop_pj n _ j (by omega) (tp1 hw (show headW 16 _ _ w from hx) (by omega) ht (by omega) (by omega))).mono (by omega) fun _ _ _ h => h
theorem opP_pj {part : Nat → PR Tm} (hp : ∀ i, Pj (i + 1) (fun t j => Tp l i j t) (part i)) {b : Nat} {t : Tm} {i : Nat} {w : Wd} (hw : l[i]? = some w) (hb : b ≤ i) (ht : Tp l b i t) : Pj (i + 2) (fun t j => Tp l b j t) (opP l part t i) := by
  unfold opP
  have h1 : placeW l i = w.place := by unfold placeW; rw [hw]
  have h2 : textW l i = w.text := by unfold textW; rw [hw]
  rw [h1, h2]
  exact pj_bind (hp _) fun u j hj hu => pj_ok hj (tp2 hw (show headW 15 _ _ w from rfl) (by omega) ht hu (by omega) (by omega) (by omega))
theorem isOp_word {ops : List ByteArray} {i : Nat} (h : isOp l ops i = true) : ∃ w, l[i]? = some w := by
  simp only [isOp, List.any_eq_true] at h
  obtain ⟨s, _, h⟩ := h
  obtain ⟨w, hw, _⟩ := tk_word h
  exact ⟨w, hw⟩
theorem opLoop_pj {part : Nat → PR Tm} (hp : ∀ i, Pj (i + 1) (fun t j => Tp l i j t) (part i)) (ops : List ByteArray) {b : Nat} : ∀ (n : Nat) (t : Tm) (i : Nat), b ≤ i → Tp l b i t → Pj i (fun t j => Tp l b j t) (opLoop l part ops n t i)
  | 0, t, i, hb, ht => pj_ok (Nat.le_refl _) ht
  | n + 1, t, i, hb, ht => by
    unfold opLoop
    split
    · rename_i h
      obtain ⟨w, hw⟩ := isOp_word hl h
      exact pj_bind (opP_pj hl hp hw hb ht) fun u j hj hu => (opLoop_pj hp ops n u j (by omega) hu).mono (by omega) fun _ _ _ h => h
    · exact pj_ok (Nat.le_refl _) ht
theorem pAtom_pj {W : Nat → PR Tm} (hW : ∀ i, Pj (i + 1) (fun t j => Tp l i j t) (W i)) (i : Nat) : Pj (i + 1) (fun t j => Tp l i j t) (pAtom l W i) := by
  unfold pAtom
  split
  · exact pj_wbad
  · rename_i w hw
    by_cases h2 : w.kind = 2
    · rw [if_pos h2]; exact pj_ok (Nat.le_refl _) (tp0 hw (show headW 1 _ _ w from .inl ⟨h2, rfl⟩) (by omega))
    · rw [if_neg h2]
      by_cases h1 : w.kind = 1
      · rw [if_pos h1]; exact pj_ok (Nat.le_refl _) (tp0 hw (show headW 0 _ _ w from rfl) (by omega))
      · rw [if_neg h1]
        refine pj_tk (fun v hv _ hx _ => ?_) (pj_tk (fun v hv _ hx _ => ?_) (pj_tk (fun v hv _ hx _ => ?_) (pj_tk (fun v hv _ hx _ => ?_) pj_wbad)))
        · obtain rfl := Option.some.inj (hw.symm.trans hv)
          exact pj_ok (Nat.le_refl _) (tp0 hw (show headW 2 _ _ w from hx) (by omega))
        · obtain rfl := Option.some.inj (hw.symm.trans hv)
          exact pj_ok (Nat.le_refl _) (tp0 hw (show headW 3 _ _ w from hx) (by omega))
        · exact pj_bind (hW _) fun t j hj ht => pj_bind (mustP_pj _ _ _) fun _ j2 hj2 _ => pj_ok (by omega) (ht.wide (by omega) (by omega))
        · obtain rfl := Option.some.inj (hw.symm.trans hv)
          exact pj_bind (hW _) fun t j hj ht => pj_bind (mustP_pj _ _ _) fun _ j2 hj2 _ => pj_bind (hW _) fun u j3 hj3 hu => pj_bind (mustP_pj _ _ _) fun _ j4 hj4 _ => pj_ok (by omega) (tp2 hw (show headW 9 _ _ w from hx) (by omega) ht hu (by omega) (by omega) (by omega))
theorem appLoop_pj {W : Nat → PR Tm} (hW : ∀ i, Pj (i + 1) (fun t j => Tp l i j t) (W i)) {b : Nat} : ∀ (n : Nat) (t : Tm) (i : Nat), b ≤ i → Tp l b i t → Pj i (fun t j => Tp l b j t) (appLoop l W n t i)
  | 0, t, i, hb, ht => pj_ok (Nat.le_refl _) ht
  | n + 1, t, i, hb, ht => by
    unfold appLoop
    refine pj_tk (fun w hw hk hx hp => ?_) (pj_ok (Nat.le_refl _) ht)
    rw [hp]
    exact pj_bind (hW _) fun a j hj ha => pj_bind (mustP_pj _ _ _) fun _ j2 hj2 _ => (appLoop_pj hW n _ j2 (by omega) (tp2 hw (show headW 6 _ _ w from hx) (by omega) ht ha (by omega) (by omega) (by omega))).mono (by omega) fun _ _ _ h => h
theorem inP_pj {un : Nat → PR Tm} (hu : ∀ i, Pj (i + 1) (fun t j => Tp l i j t) (un i)) (k : Int) {q : Nat} {w : Wd} (hw : l[q]? = some w) (hh : ∀ name num, headW k name num w) (i : Nat) (hq : i = q + 1) : Pj (q + 1) (fun t j => Tp l q j t) (inP l un k w.place i) := by
  unfold inP
  exact pj_bind (mustP_pj _ _ _) fun _ j hj _ => pj_bind (typP_pj _) fun a j2 hj2 _ => pj_bind (mustP_pj _ _ _) fun _ j3 hj3 _ => pj_bind (hu _) fun t j4 hj4 ht => pj_ok (by omega) (tp1 hw (hh _ _) (by omega) ht (by omega) (by omega))
theorem pUn_pj {W : Nat → PR Tm} (hW : ∀ i, Pj (i + 1) (fun t j => Tp l i j t) (W i)) : ∀ (m i : Nat), Pj (i + 1) (fun t j => Tp l i j t) (pUn l W m i)
  | 0, i => pj_wbad
  | m + 1, i => by
    have ih := pUn_pj hW m
    unfold pUn
    refine pj_tk (fun w hw hk hx hp => ?_) (pj_tk (fun w hw hk hx hp => ?_) (pj_tk (fun w hw hk hx hp => ?_) (pj_tk (fun w hw hk hx hp => ?_) (pj_tk (fun w hw hk hx hp => ?_) ?_))))
    · rw [hp]; exact pj_bind (ih _) fun t j hj ht => pj_ok (by omega) (tp1 hw (show headW 10 _ _ w from hx) (by omega) ht (by omega) (by omega))
    · rw [hp]; exact pj_bind (ih _) fun t j hj ht => pj_ok (by omega) (tp1 hw (show headW 11 _ _ w from hx) (by omega) ht (by omega) (by omega))
    · rw [hp]; exact inP_pj hl ih 12 hw (fun _ _ => show headW 12 _ _ w from hx) _ rfl
    · rw [hp]; exact inP_pj hl ih 13 hw (fun _ _ => show headW 13 _ _ w from hx) _ rfl
    · rw [hp]; exact (numP_pj hl hw hx).mono (by omega) fun _ _ _ h => h
    · exact pj_bind (pAtom_pj hl hW i) fun t j hj ht => (appLoop_pj hl hW _ t j (by omega) ht).mono hj fun _ _ _ h => h
theorem pIs_pj {W : Nat → PR Tm} (hW : ∀ i, Pj (i + 1) (fun t j => Tp l i j t) (W i)) (i : Nat) : Pj (i + 1) (fun t j => Tp l i j t) (pIs l W i) := by
  have hu : ∀ i, Pj (i + 1) (fun t j => Tp l i j t) (pU l W i) := fun i => pUn_pj hl hW _ i
  have hm : ∀ i, Pj (i + 1) (fun t j => Tp l i j t) (pMul l W i) := fun i => pj_bind (hu i) fun t j hj ht => (opLoop_pj hl hu _ _ t j (by omega) ht).mono hj fun _ _ _ h => h
  have hs : ∀ i, Pj (i + 1) (fun t j => Tp l i j t) (pSum l W i) := fun i => pj_bind (hm i) fun t j hj ht => (opLoop_pj hl hm _ _ t j (by omega) ht).mono hj fun _ _ _ h => h
  have hc : ∀ i, Pj (i + 1) (fun t j => Tp l i j t) (pCmp l W i) := fun i => pj_bind (hs i) fun t j hj ht => by
    split
    · rename_i h
      obtain ⟨w, hw⟩ := isOp_word hl h
      exact (opP_pj hl hs hw (by omega) ht).mono (by omega) fun _ _ _ h => h
    · exact pj_ok hj ht
  exact pj_bind (hc i) fun t j hj ht => (isLoop_pj hl _ t j (by omega) ht).mono hj fun _ _ _ h => h
theorem branchP_pj {W : Nat → PR Tm} (hW : ∀ i, Pj (i + 1) (fun t j => Tp l i j t) (W i)) (i : Nat) : Pj (i + 1) (fun x j => Tp l i j x.2) (branchP l W i) := by
  unfold branchP
  exact pj_bind (nameP_pj i) fun x j hj _ => pj_bind (mustP_pj _ _ _) fun _ j2 hj2 _ => pj_bind (hW _) fun t j3 hj3 ht => pj_ok (by omega) (ht.wide (by omega) (Nat.le_refl _))
theorem pStep_pj {W : Nat → PR Tm} (hW : ∀ i, Pj (i + 1) (fun t j => Tp l i j t) (W i)) (i : Nat) : Pj (i + 1) (fun t j => Tp l i j t) (pStep l W i) := by
  unfold pStep
  refine pj_tk (fun w hw hk hx hp => ?_) (pj_tk (fun w hw hk hx hp => ?_) (pj_tk (fun w hw hk hx hp => ?_) (pj_tk (fun w hw hk hx hp => ?_) (pj_tk (fun w hw hk hx hp => ?_) (pIs_pj hl hW i)))))
  · rw [hp]; unfold lamP
    exact pj_bind (annP_pj _) fun x j hj _ => pj_bind (mustP_pj _ _ _) fun _ j2 hj2 _ => pj_bind (hW _) fun t j3 hj3 ht => pj_ok (by omega) (tp1 hw (show headW 4 _ _ w from hx) (by omega) ht (by omega) (by omega))
  · rw [hp]; unfold letP
    exact pj_bind (annP_pj _) fun x j hj _ => pj_bind (mustP_pj _ _ _) fun _ j2 hj2 _ => pj_bind (hW _) fun t j3 hj3 ht => pj_bind (mustP_pj _ _ _) fun _ j4 hj4 _ => pj_bind (hW _) fun u j5 hj5 hu => pj_ok (by omega) (tp2 hw (show headW 7 _ _ w from hx) (by omega) ht hu (by omega) (by omega) (by omega))
  · rw [hp]; unfold ifP
    exact pj_bind (hW _) fun a j hj ha => pj_bind (mustP_pj _ _ _) fun _ j2 hj2 _ => pj_bind (hW _) fun b j3 hj3 hb => pj_bind (mustP_pj _ _ _) fun _ j4 hj4 _ => pj_bind (hW _) fun c j5 hj5 hc => pj_ok (by omega) (tp3 hw (show headW 8 _ _ w from hx) (by omega) ha hb hc (by omega) (by omega))
  · rw [hp]; unfold recP
    exact pj_bind (nameP_pj _) fun f j0 hj0 _ => pj_bind (mustP_pj _ _ _) fun _ j hj _ => pj_bind (annP_pj _) fun x j2 hj2 _ => pj_bind (mustP_pj _ _ _) fun _ j3 hj3 _ => pj_bind (mustP_pj _ _ _) fun _ j4 hj4 _ => pj_bind (typP_pj _) fun b j5 hj5 _ => pj_bind (mustP_pj _ _ _) fun _ j6 hj6 _ => pj_bind (hW _) fun t j7 hj7 ht => pj_ok (by omega) (tp1 hw (show headW 5 _ _ w from hx) (by omega) ht (by omega) (by omega))
  · rw [hp]; unfold caseP
    exact pj_bind (hW _) fun a j hj ha => pj_bind (mustP_pj _ _ _) fun _ j2 hj2 _ => pj_bind (branchP_pj hl hW _) fun x j3 hj3 hx3 => pj_bind (mustP_pj _ _ _) fun _ j4 hj4 _ => pj_bind (branchP_pj hl hW _) fun y j5 hj5 hy => pj_ok (by omega) (tp3 hw (show headW 14 _ _ w from hx) (by omega) ha hx3 hy (by omega) (by omega))
theorem pTerm_pj : ∀ (n i : Nat), Pj (i + 1) (fun t j => Tp l i j t) (pTerm l n i)
  | 0, i => pj_wbad
  | n + 1, i => pStep_pj hl (pTerm_pj n) i
end
end Go.Proofs.YtmaokphbfjpodaaGreatDoor.E
