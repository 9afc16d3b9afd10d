/- Texts, merged: Pm4, Pz1, TyOpen, Rw2a, Kw8, Glue, TmOpen. No conditions. -/
import Derived.Test.YtmaokphbfjpodaaGreatDoorGenX18
import Derived.Test.YtmaokphbfjpodaaGreatDoorGenX15
import Derived.Test.YtmaokphbfjpodaaGreatDoorGenX16
import Derived.Test.YtmaokphbfjpodaaGreatDoorGenX2
import Derived.Deep.Slices
import Derived.WideKeyArgs
import Derived.ChangeArms
import Derived.ChangeOld
import Derived.Below
import Derived.Test.YtmaokphbfjpodaaGreatDoorEngX3
import Derived.WalkKit
import Derived.ProofKit
import Derived.OpenShut
import Derived.SizedLaws
import Derived.Test.YtmaokphbfjpodaaGreatDoorGenX3
/- What is read of a text is a term, in plain Lean. No conditions. -/
set_option linter.unusedVariables false
set_option linter.unusedSimpArgs false
namespace Go.Proofs.YtmaokphbfjpodaaGreatDoor.E
open Go

theorem numL_le : ∀ (l : List UInt8) (n v : Nat), n ≤ 9223372036854775807 → numL n l = some v → v ≤ 9223372036854775807
  | [], n, v, hn, h => by simp [numL] at h; omega
  | c :: l, n, v, hn, h => by
    rw [numL] at h
    split at h
    · cases h
    · rename_i hc
      have := c.toNat_lt
      exact numL_le l _ v (by omega) h
theorem bytesF_of {w : ByteArray} : ∀ n, n ≤ w.size → (∀ d ∈ w.data.toList.take n, nbF (d.toNat : Nat) = true) → bytesF w n = true
  | 0, _, _ => rfl
  | n + 1, hn, h => by
    have hlt : n < w.data.toList.length := hn
    rw [List.take_succ_eq_append_getElem hlt] at h
    simp only [bytesF, Bool.and_eq_true]
    refine ⟨bytesF_of n (by omega) fun d hd => h d (List.mem_append.2 (.inl hd)), ?_⟩
    have := h _ (List.mem_append.2 (.inr (List.mem_singleton.2 rfl)))
    unfold byteAt
    rw [show ((n : Nat) : Int).toNat = n from rfl, List.getElem?_eq_getElem hlt]
    exact this
theorem letter_not_digit {c : Int} (h : letterF c = true) : digitF c = false := by
  simp only [letterF, Bool.or_eq_true, Bool.and_eq_true, decide_eq_true_eq] at h
  simp only [digitF, Bool.and_eq_false_iff, decide_eq_false_iff_not]
  omega
theorem wordL_wok {p : Nat} {l : List UInt8} {w : Wd} (h : wordL p l = .ok w) : (w.kind = 1 → nameF w.text = true) ∧ (w.kind = 2 → 0 ≤ w.num ∧ w.num ≤ 9223372036854775807) := by
  have hsz := wordL_ok h
  cases l with
  | nil => cases h
  | cons c l =>
    by_cases h1 : letterF c.toNat = true
    · rw [wordL_letter h1] at h
      have hpos : 1 ≤ spanL true (c :: l) := by rw [spanL, if_pos (by rw [h1]; simp)]; omega
      have hall := spanL_all true (c :: l)
      generalize hn : spanL true (c :: l) = n at h hpos hall
      obtain ⟨n, rfl⟩ : ∃ q, n = q + 1 := ⟨n - 1, by omega⟩
      split at h
      · cases h
      · rename_i h64
        split at h
        · cases h; exact ⟨fun q => by simp at q, fun q => by simp at q⟩
        · rename_i hk
          cases h
          refine ⟨fun _ => ?_, fun q => by simp at q⟩
          have e : (⟨((c :: l).take (n + 1)).toArray⟩ : ByteArray).data.toList = c :: l.take n := rfl
          simp only [nameF, Bool.and_eq_true, Bool.not_eq_true', decide_eq_true_eq, decide_eq_false_iff_not]
          refine ⟨⟨⟨⟨fun q => ?_, ?_⟩, by simpa using hk⟩, ?_⟩, ?_⟩
          · have := congrArg (fun b : ByteArray => b.data.toList) q
            rw [e] at this; cases this
          · have : (⟨((c :: l).take (n + 1)).toArray⟩ : ByteArray).size = ((c :: l).take (n + 1)).toArray.size := rfl
            rw [this]; omega
          · rw [byteAt_list e]; exact letter_not_digit h1
          · refine bytesF_of _ (Nat.le_refl _) fun d hd => ?_
            have := hall d (List.mem_of_mem_take hd)
            unfold nbF; rw [Bool.or_comm]; simpa using this
    · have h1 : letterF c.toNat = false := by simpa using h1
      by_cases h2 : digitF c.toNat = true
      · rw [wordL_digit h1 h2] at h
        split at h
        · cases h
        · rename_i v hv
          have e := ite_ok h
          subst e
          refine ⟨fun q => by simp at q, fun _ => ?_⟩
          have := numL_le _ 0 v (by decide) hv
          simp only
          omega
      · have h2 : digitF c.toNat = false := by simpa using h2
        unfold wordL at h
        simp only at h
        rw [if_neg (by rw [h1]; decide), if_neg (by rw [h2]; decide)] at h
        split at h
        · split at h <;> (cases h; exact ⟨fun q => by simp at q, fun q => by simp at q⟩)
        · split at h
          · cases h; exact ⟨fun q => by simp at q, fun q => by simp at q⟩
          · cases h
theorem scanL_wok : ∀ (n p : Nat) (s : List UInt8) (l : List Wd), scanL n p s = .ok l → WsOk l
  | 0, p, s, l, h => by cases h; intro w hw; simp at hw
  | n + 1, p, s, l, h => by
    rw [scanL_skip] at h
    generalize hq : s.drop (skipL false s) = r at h
    by_cases hn : r = []
    · subst hn; rw [scanL_nil] at h; cases h; intro w hw; simp at hw
    · rw [scanL_step n _ r (by rw [← hq]; exact skipL_again s false) hn] at h
      split at h
      · cases h
      · rename_i w hw
        split at h
        · cases h
        · rename_i l' hl
          cases h
          have ih := scanL_wok n _ _ _ hl
          intro x hx
          rcases List.mem_cons.1 hx with rfl | hx
          · exact wordL_wok hw
          · exact ih x hx
theorem scanF_wok {s : ByteArray} {l : List Wd} (h : scanF s = .ok l) : WsOk l := by
  obtain ⟨_, ws, rfl, _, h2⟩ := scanF_ok h
  have := scanL_wok _ _ _ _ h2
  intro w hw
  rcases List.mem_append.1 hw with hw | hw
  · exact this w hw
  · rw [List.mem_singleton] at hw
    subst hw
    exact ⟨fun q => absurd q (show ¬ (0 : Int) = 1 by decide), fun q => absurd q (show ¬ (0 : Int) = 2 by decide)⟩
end Go.Proofs.YtmaokphbfjpodaaGreatDoor.E

/- What is read has short rows, in plain Lean. No conditions. -/
set_option linter.unusedVariables false
set_option linter.unusedSimpArgs false
set_option linter.unusedSectionVars false
namespace Go.Proofs.YtmaokphbfjpodaaGreatDoor.E
open Go

theorem tyok_right (a : Ty) : tright a = true → TyOk a := by
  induction a using Ty.ind with
  | _ k ks ih =>
  intro h
  have hl := tright_len h
  have hk : parts k ≤ 2 := by
    unfold parts
    split
    · decide
    · split <;> decide
  exact .node (by omega) fun t ht => ih t ht (tright_kid h ht)
theorem ok_tn {k : Int} {name arg : ByteArray} {num : Int} {a b : Ty} {p : Int} {ks : List Tm} (h1 : kidsK k = ks.length) (hA : tcheck a = 0) (hB : tcheck b = 0) (h10 : ∀ t ∈ ks, TmOk t) : TmOk (tn k name arg num a b p ks) := by
  have ha := tyok_right _ (tcheck_right hA)
  have hb := tyok_right _ (tcheck_right hB)
  obtain ⟨tk, tks⟩ := a
  obtain ⟨uk, uks⟩ := b
  have hk := kidsK_le k
  exact .node ha hb (by omega) h10
section
variable {l : List Wd} (hl : WsOk l)
include hl
theorem numP_go (p : Int) (i : Nat) : Gd TmOk (numP l p i) := by
  unfold numP
  split
  · rename_i w hw
    split
    · rename_i hk
      have h := (hl w (List.mem_of_getElem? hw)).2 hk
      refine gd_ok ?_
      rw [wrap64 (by omega) (by omega)]
      exact ok_tn rfl rfl rfl (fun t ht => by simp at ht)
    · exact gd_wbad
  · exact gd_wbad
theorem isLoop_go : ∀ (n : Nat) (t : Tm) (i : Nat), TmOk t → Gd TmOk (isLoop l n t i)
  | 0, t, i, ht => gd_ok ht
  | n + 1, t, i, ht => by
    unfold isLoop
    refine gd_ite (gd_bind (typP_gd hl _) fun a j ha => isLoop_go n _ _ ?_) (gd_ok ht)
    (apply ok_tn <;> first | rfl | decide | (simp_all; done) | (intro h; exact absurd h (by decide)) | (intro _; simp_all; done) | (intro t ht; simp at ht; rcases ht with rfl | rfl | rfl <;> simp_all; done) | (intro t ht; simp at ht; rcases ht with rfl | rfl <;> simp_all; done) | (intro t ht; simp at ht; subst ht; simp_all; done) | (intro t ht; simp at ht; done))
theorem opP_go {part : Nat → PR Tm} (hp : ∀ i, Gd TmOk (part i)) {t : Tm} (ht : TmOk t) {i : Nat} (ho : opF (textW l i) = true) : Gd TmOk (opP l part t i) := by
  unfold opP
  refine gd_bind (hp _) fun u j hu => gd_ok ?_
  (apply ok_tn <;> first | rfl | decide | (simp_all; done) | (intro h; exact absurd h (by decide)) | (intro _; simp_all; done) | (intro t ht; simp at ht; rcases ht with rfl | rfl | rfl <;> simp_all; done) | (intro t ht; simp at ht; rcases ht with rfl | rfl <;> simp_all; done) | (intro t ht; simp at ht; subst ht; simp_all; done) | (intro t ht; simp at ht; done))
theorem opLoop_go {part : Nat → PR Tm} (hp : ∀ i, Gd TmOk (part i)) {ops : List ByteArray} (hs : ∀ s ∈ ops, opF s = true) : ∀ (n : Nat) (t : Tm) (i : Nat), TmOk t → Gd TmOk (opLoop l part ops n t i)
  | 0, t, i, ht => gd_ok ht
  | n + 1, t, i, ht => by
    unfold opLoop
    split
    · rename_i h
      exact gd_bind (opP_go hl hp ht (isOp_text hl h hs)) fun u j hu => opLoop_go hp hs n u j hu
    · exact gd_ok ht
theorem pAtom_go {W : Nat → PR Tm} (hW : ∀ i, Gd TmOk (W i)) (i : Nat) : Gd TmOk (pAtom l W i) := by
  unfold pAtom
  split
  · exact gd_wbad
  · rename_i w hw
    have hwk := hl w (List.mem_of_getElem? hw)
    by_cases h2 : w.kind = 2
    · rw [if_pos h2]
      have h := hwk.2 h2
      exact gd_ok (ok_tn rfl rfl rfl (fun t ht => by simp at ht))
    · rw [if_neg h2]
      by_cases h1 : w.kind = 1
      · rw [if_pos h1]
        have h := hwk.1 h1
        exact gd_ok (ok_tn rfl rfl rfl (fun t ht => by simp at ht))
      · rw [if_neg h1]
        clear hwk h1 h2
        repeat' first | with_reducible exact gd_bad | with_reducible exact gd_wbad | (with_reducible refine gd_ok ?_) | (with_reducible refine gd_bind (hW _) (fun x j hx => ?_)) | (with_reducible refine gd_bind (must4_gd hl _ _) (fun x j hx => ?_)) | (with_reducible refine gd_bind (must3_gd hl _ _) (fun x j hx => ?_)) | (with_reducible refine gd_bind (nameP_gd hl _) (fun x j hx => ?_)) | (with_reducible refine gd_bind (typP_gd hl _) (fun x j hx => ?_)) | (with_reducible refine gd_bind (numP_go hl _ _) (fun x j hx => ?_)) | with_reducible exact hW _ | with_reducible exact must4_gd hl _ _ | with_reducible exact must3_gd hl _ _ | with_reducible exact nameP_gd hl _ | with_reducible exact typP_gd hl _ | with_reducible exact numP_go hl _ _ | (with_reducible refine gd_ite ?_ ?_) | assumption | (apply ok_tn <;> first | rfl | decide | (simp_all; done) | (intro h; exact absurd h (by decide)) | (intro _; simp_all; done) | (intro t ht; simp at ht; rcases ht with rfl | rfl | rfl <;> simp_all; done) | (intro t ht; simp at ht; rcases ht with rfl | rfl <;> simp_all; done) | (intro t ht; simp at ht; subst ht; simp_all; done) | (intro t ht; simp at ht; done))
theorem appLoop_go {W : Nat → PR Tm} (hW : ∀ i, Gd TmOk (W i)) : ∀ (n : Nat) (t : Tm) (i : Nat), TmOk t → Gd TmOk (appLoop l W n t i)
  | 0, t, i, ht => gd_ok ht
  | n + 1, t, i, ht => by
    unfold appLoop
    refine gd_ite (gd_bind (hW _) fun a j ha => gd_bind (must4_gd hl _ _) fun _ j _ => appLoop_go hW n _ _ ?_) (gd_ok ht)
    (apply ok_tn <;> first | rfl | decide | (simp_all; done) | (intro h; exact absurd h (by decide)) | (intro _; simp_all; done) | (intro t ht; simp at ht; rcases ht with rfl | rfl | rfl <;> simp_all; done) | (intro t ht; simp at ht; rcases ht with rfl | rfl <;> simp_all; done) | (intro t ht; simp at ht; subst ht; simp_all; done) | (intro t ht; simp at ht; done))
theorem inP_go {un : Nat → PR Tm} (hu : ∀ i, Gd TmOk (un i)) (k : Int) (hk : k = 12 ∨ k = 13) (p : Int) (i : Nat) : Gd TmOk (inP l un k p i) := by
  unfold inP
  rcases hk with rfl | rfl
  all_goals
    repeat' first | with_reducible exact gd_bad | with_reducible exact gd_wbad | (with_reducible refine gd_ok ?_) | (with_reducible refine gd_bind (hu _) (fun x j hx => ?_)) | (with_reducible refine gd_bind (must4_gd hl _ _) (fun x j hx => ?_)) | (with_reducible refine gd_bind (must3_gd hl _ _) (fun x j hx => ?_)) | (with_reducible refine gd_bind (nameP_gd hl _) (fun x j hx => ?_)) | (with_reducible refine gd_bind (typP_gd hl _) (fun x j hx => ?_)) | (with_reducible refine gd_bind (numP_go hl _ _) (fun x j hx => ?_)) | with_reducible exact hu _ | with_reducible exact must4_gd hl _ _ | with_reducible exact must3_gd hl _ _ | with_reducible exact nameP_gd hl _ | with_reducible exact typP_gd hl _ | with_reducible exact numP_go hl _ _ | (with_reducible refine gd_ite ?_ ?_) | (apply ok_tn <;> first | rfl | decide | (simp_all; done) | (intro h; exact absurd h (by decide)) | (intro _; simp_all; done) | (intro t ht; simp at ht; rcases ht with rfl | rfl | rfl <;> simp_all; done) | (intro t ht; simp at ht; rcases ht with rfl | rfl <;> simp_all; done) | (intro t ht; simp at ht; subst ht; simp_all; done) | (intro t ht; simp at ht; done))
theorem pUn_go {W : Nat → PR Tm} (hW : ∀ i, Gd TmOk (W i)) : ∀ (m i : Nat), Gd TmOk (pUn l W m i)
  | 0, i => gd_wbad
  | m + 1, i => by
    have ih := pUn_go hW m
    unfold pUn
    refine gd_ite (gd_bind (ih _) fun t j ht => gd_ok ?_) (gd_ite (gd_bind (ih _) fun t j ht => gd_ok ?_) (gd_ite (inP_go hl ih 12 (.inl rfl) _ _) (gd_ite (inP_go hl ih 13 (.inr rfl) _ _) (gd_ite (numP_go hl _ _) (gd_bind (pAtom_go hl hW _) fun t j ht => appLoop_go hl hW _ t j ht)))))
    · (apply ok_tn <;> first | rfl | decide | (simp_all; done) | (intro h; exact absurd h (by decide)) | (intro _; simp_all; done) | (intro t ht; simp at ht; rcases ht with rfl | rfl | rfl <;> simp_all; done) | (intro t ht; simp at ht; rcases ht with rfl | rfl <;> simp_all; done) | (intro t ht; simp at ht; subst ht; simp_all; done) | (intro t ht; simp at ht; done))
    · (apply ok_tn <;> first | rfl | decide | (simp_all; done) | (intro h; exact absurd h (by decide)) | (intro _; simp_all; done) | (intro t ht; simp at ht; rcases ht with rfl | rfl | rfl <;> simp_all; done) | (intro t ht; simp at ht; rcases ht with rfl | rfl <;> simp_all; done) | (intro t ht; simp at ht; subst ht; simp_all; done) | (intro t ht; simp at ht; done))
theorem pIs_go {W : Nat → PR Tm} (hW : ∀ i, Gd TmOk (W i)) (i : Nat) : Gd TmOk (pIs l W i) := by
  have hu : ∀ i, Gd TmOk (pU l W i) := fun i => pUn_go hl hW _ i
  have hm : ∀ i, Gd TmOk (pMul l W i) := fun i => gd_bind (hu i) fun t j hj => opLoop_go hl hu (by decide) _ t j hj
  have hs : ∀ i, Gd TmOk (pSum l W i) := fun i => gd_bind (hm i) fun t j hj => opLoop_go hl hm (by decide) _ t j hj
  have hc : ∀ i, Gd TmOk (pCmp l W i) := fun i => gd_bind (hs i) fun t j hj => by
    split
    · rename_i h; exact opP_go hl hs hj (isOp_text hl h (by decide))
    · exact gd_ok hj
  exact gd_bind (hc i) fun t j hj => isLoop_go hl _ t j hj
theorem branchP_go {W : Nat → PR Tm} (hW : ∀ i, Gd TmOk (W i)) (i : Nat) : Gd (fun x : ByteArray × Tm => nameF x.1 = true ∧ TmOk x.2) (branchP l W i) := by
  unfold branchP
  repeat' first | with_reducible exact gd_bad | with_reducible exact gd_wbad | (with_reducible refine gd_ok ?_) | (with_reducible refine gd_bind (hW _) (fun x j hx => ?_)) | (with_reducible refine gd_bind (must4_gd hl _ _) (fun x j hx => ?_)) | (with_reducible refine gd_bind (must3_gd hl _ _) (fun x j hx => ?_)) | (with_reducible refine gd_bind (nameP_gd hl _) (fun x j hx => ?_)) | (with_reducible refine gd_bind (typP_gd hl _) (fun x j hx => ?_)) | (with_reducible refine gd_bind (numP_go hl _ _) (fun x j hx => ?_)) | with_reducible exact hW _ | with_reducible exact must4_gd hl _ _ | with_reducible exact must3_gd hl _ _ | with_reducible exact nameP_gd hl _ | with_reducible exact typP_gd hl _ | with_reducible exact numP_go hl _ _ | (with_reducible refine gd_ite ?_ ?_) | exact ⟨by assumption, by assumption⟩
theorem pStep_go {W : Nat → PR Tm} (hW : ∀ i, Gd TmOk (W i)) (i : Nat) : Gd TmOk (pStep l W i) := by
  unfold pStep lamP letP ifP recP caseP
  repeat' first | with_reducible exact gd_bad | with_reducible exact gd_wbad | (with_reducible refine gd_ok ?_) | (with_reducible refine gd_bind (hW _) (fun x j hx => ?_)) | (with_reducible refine gd_bind (annP_gd hl _) (fun x j hx => ?_)) | (with_reducible refine gd_bind (branchP_go hl hW _) (fun x j hx => ?_)) | (with_reducible refine gd_bind (pIs_go hl hW _) (fun x j hx => ?_)) | (with_reducible refine gd_bind (must4_gd hl _ _) (fun x j hx => ?_)) | (with_reducible refine gd_bind (must3_gd hl _ _) (fun x j hx => ?_)) | (with_reducible refine gd_bind (nameP_gd hl _) (fun x j hx => ?_)) | (with_reducible refine gd_bind (typP_gd hl _) (fun x j hx => ?_)) | (with_reducible refine gd_bind (numP_go hl _ _) (fun x j hx => ?_)) | with_reducible exact hW _ | with_reducible exact annP_gd hl _ | with_reducible exact branchP_go hl hW _ | with_reducible exact pIs_go hl hW _ | with_reducible exact must4_gd hl _ _ | with_reducible exact must3_gd hl _ _ | with_reducible exact nameP_gd hl _ | with_reducible exact typP_gd hl _ | with_reducible exact numP_go hl _ _ | (with_reducible refine gd_ite ?_ ?_) | (apply ok_tn <;> first | rfl | decide | (simp_all; done) | (intro h; exact absurd h (by decide)) | (intro _; simp_all; done) | (intro t ht; simp at ht; rcases ht with rfl | rfl | rfl <;> simp_all; done) | (intro t ht; simp at ht; rcases ht with rfl | rfl <;> simp_all; done) | (intro t ht; simp at ht; subst ht; simp_all; done) | (intro t ht; simp at ht; done))
theorem pTerm_go : ∀ (n i : Nat), Gd TmOk (pTerm l n i)
  | 0, i => gd_wbad
  | n + 1, i => pStep_go hl (pTerm_go n) i
end
/-- What is read has short rows. -/
theorem read_ok {s : ByteArray} {t : Tm} (h : readF s = .ok t) : TmOk t := by
  unfold readF at h
  split at h
  · cases h
  · rename_i l hl
    split at h
    · cases h
    · rename_i t' j hw
      have ht : t' = t := by
        split at h
        · rename_i w hwj
          by_cases hk : w.kind = 0
          · rw [if_pos hk] at h; cases h; rfl
          · rw [if_neg hk] at h; cases h
        · cases h
      subst ht
      unfold wordsP at hw
      cases hp : pTerm l (l.length + 1) 0 with
      | bad e a w => rw [hp] at hw; cases hw
      | ok u q =>
        rw [hp, bindP_ok] at hw
        have hg := pTerm_go (scanF_wok hl) (l.length + 1) 0 u q hp
        split at hw
        · cases hw
        · split at hw
          · cases hw
          · cases hw; exact hg
end Go.Proofs.YtmaokphbfjpodaaGreatDoor.E

/- From a row's reading of an argument to a tree. No conditions. -/
set_option linter.unusedVariables false
set_option linter.unusedSimpArgs false
namespace Go.Proofs.YtmaokphbfjpodaaGreatDoor.E
open Go Go.RowKit

/-- All that was there is one region. -/
def rgAll (w : World) : Nat → Option Nat := fun b => if b < w.heap.size then some 0 else none
def czAll (w : World) : Cz := ⟨[], rgAll w⟩
theorem inv_all (w : World) (hg : GlobOk w (czAll w) := by intro a v h; simp [globs] at h) : Inv w (czAll w) [] :=
  ⟨rfl, fun i o e h => by simp at h, fun i o e b h => by simp at h, fun i j o p e f b h => by simp at h, fun b r h => (by
    simp only [czAll, rgAll] at h
    split at h
    · assumption
    · cases h), hg⟩

section
variable {H : Type} {enc : TypeId × Value → H} {w : World} {base : Nat} {spare : Nat → Bool} {held : Bool}

end

end Go.Proofs.YtmaokphbfjpodaaGreatDoor.E

/- LikeType, LikeTerm of a thing and itself, of any size; what stands over a spoiling. No conditions. -/
set_option linter.unusedVariables false
set_option linter.unusedSimpArgs false
namespace Go.Proofs.YtmaokphbfjpodaaGreatDoor.E
open Go

set_option maxRecDepth 10000 in
theorem likeTyO_call (a : Ty) : TyOk a → ACall Tryz.prog 23 [a.val, a.val] [] (fun o σ => o = .ret (.c (.d (.bool true))) ∧ σ = []) := by
  induction a using Ty.ind with
  | _ k ks ih =>
  rintro (⟨hle, hks⟩)
  refine ACall.body tab_ok (ρ := 0) (N := 39) Tryz.func23 rfl rfl rfl rfl rfl ?_
  repeat' first | refine AW.seq ?_ | refine AW.block ?_ | (refine (_root_.id : AW _ _ _ (.region 6 _ true) _ _ → _) ?_; refine AW.draw (id := 6) tab_ok mixed [0, 1, 2, 3, 4, 5, 6, 7, 8, 9, 10, 11] (by kernel_rfl) ?_; conv => whnf) | ((first | refine AW.region tab_ok ?_ | refine AW.cond ?_ | refine AW.skip ?_ | refine AW.ret ?_ | refine AW.exit ?_); conv => whnf) | ((first | refine And.intro (@rfl Val _) ?_ | refine And.intro (by decide) ?_ | refine cs (fun _ => ?_) (fun _ => ?_)) <;> conv => whnf)
  · rename_i h; simp at h
  · rename_i h0 h; simp at h
  · rename_i h0 h
    refine AW.loop (ι := UpTo ks) (fun x => ⟨39, [(5, .c (.d (.int .i64 x.i))), (2, .c (.ptr 0 0)), (3, .c (.ptr 1 0))], [.var [.d (.int .i8 k), .d (.sl 0 2 (Ty.rows ks))], .var [.d (.int .i8 k), .d (.sl 0 2 (Ty.rows ks))]], []⟩)
      (fun x => ks.length - x.i) ⟨0, Nat.zero_le _⟩ 2 (fun _ => rfl) (Nat.le_of_ble_eq_true rfl) ⟨⟨rfl, rfl, rfl, trivial⟩, rfl, rfl, ⟨[], rfl⟩, rfl⟩ (fun x => ?_)
    obtain ⟨i, hi⟩ := x
    repeat' first | refine AW.seq ?_ | refine AW.block ?_ | (refine (_root_.id : AW _ _ _ (.region 6 _ true) _ _ → _) ?_; refine AW.draw (id := 6) tab_ok mixed [0, 1, 2, 3, 4, 5, 6, 7, 8, 9, 10, 11] (by kernel_rfl) ?_; conv => whnf) | ((first | refine AW.region tab_ok ?_ | refine AW.cond ?_ | refine AW.skip ?_ | refine AW.ret ?_ | refine AW.exit ?_); conv => whnf) | ((first | refine And.intro (@rfl Val _) ?_ | refine And.intro (by decide) ?_ | refine cs (fun _ => ?_) (fun _ => ?_)) <;> conv => whnf)
    · rename_i h1
      simp only [rows_length] at h1 ⊢
      have := of_decide_eq_true h1
      refine ⟨by omega, fun row hrow => ?_⟩
      obtain ⟨⟨kx, kxs⟩, ht, rfl⟩ := rows_get ks i row (by simpa using hrow)
      have hlt : i < ks.length := (List.getElem?_eq_some_iff.1 ht).1
      have hm := List.mem_of_getElem? ht
      conv => whnf
      repeat' first | refine AW.seq ?_ | refine AW.block ?_ | (refine (_root_.id : AW _ _ _ (.region 6 _ true) _ _ → _) ?_; refine AW.draw (id := 6) tab_ok mixed [0, 1, 2, 3, 4, 5, 6, 7, 8, 9, 10, 11] (by kernel_rfl) ?_; conv => whnf) | ((first | refine AW.region tab_ok ?_ | refine AW.cond ?_ | refine AW.skip ?_ | refine AW.ret ?_ | refine AW.exit ?_); conv => whnf) | ((first | refine And.intro (@rfl Val _) ?_ | refine And.intro (by decide) ?_ | refine cs (fun _ => ?_) (fun _ => ?_)) <;> conv => whnf)
      simp only [rows_length]
      refine ⟨by omega, fun row hrow => ?_⟩
      obtain ⟨y, hu, rfl⟩ := rows_get ks i row (by simpa using hrow)
      rw [ht] at hu
      cases hu
      conv => whnf
      repeat' first | refine AW.seq ?_ | refine AW.block ?_ | (refine (_root_.id : AW _ _ _ (.region 6 _ true) _ _ → _) ?_; refine AW.draw (id := 6) tab_ok mixed [0, 1, 2, 3, 4, 5, 6, 7, 8, 9, 10, 11] (by kernel_rfl) ?_; conv => whnf) | ((first | refine AW.region tab_ok ?_ | refine AW.cond ?_ | refine AW.skip ?_ | refine AW.ret ?_ | refine AW.exit ?_); conv => whnf) | (refine (ih _ hm (hks _ hm)).mono ?_; rintro _ _ ⟨rfl, rfl⟩; conv => whnf) | ((first | refine And.intro (@rfl Val _) ?_ | refine And.intro (by decide) ?_ | refine cs (fun _ => ?_) (fun _ => ?_)) <;> conv => whnf)
      rw [wrap64 (x := (i : Int) + 1) (by omega) (by omega)]
      exact ⟨⟨i + 1, hlt⟩, ⟨⟨rfl, rfl, rfl, trivial⟩, rfl, rfl, ⟨[], rfl⟩, rfl⟩, show ks.length - (i + 1) < ks.length - i by omega⟩
    · exact ⟨rfl, rfl⟩
set_option maxRecDepth 10000 in
theorem likeTmO_call (a : Tm) : TmOk a → ACall Tryz.prog 11 [a.val, a.val] [] (fun o σ => o = .ret (.c (.d (.bool true))) ∧ σ = []) := by
  induction a using Tm.ind with
  | _ k name arg num tk tks uk uks label place ks ih =>
  rintro (⟨h1, h2, h3, h4⟩)
  have c1 := likeTyO_call _ h1
  have c2 := likeTyO_call _ h2
  refine ACall.body tab_ok (ρ := 0) (N := 90) Tryz.func11 rfl rfl rfl rfl rfl ?_
  repeat' first | refine AW.seq ?_ | refine AW.block ?_ | (refine (_root_.id : AW _ _ _ (.region 6 _ true) _ _ → _) ?_; refine AW.draw (id := 6) tab_ok mixed [0, 1, 2, 3, 4, 5, 6, 7, 8, 9, 10, 11] (by kernel_rfl) ?_; conv => whnf) | ((first | refine AW.region tab_ok ?_ | refine AW.cond ?_ | refine AW.skip ?_ | refine AW.ret ?_ | refine AW.exit ?_); conv => whnf) | ((first | refine (c1).mono ?_ | refine (c2).mono ?_); rintro _ _ ⟨rfl, rfl⟩; conv => whnf) | ((first | refine And.intro (@rfl Val _) ?_ | refine And.intro (by decide) ?_ | refine cs (fun _ => ?_) (fun _ => ?_)) <;> conv => whnf)
  all_goals first | (rename_i h; simp at h; done) | skip
  · refine AW.loop (ι := UpToT ks) (fun x => ⟨90, [(5, .c (.d (.int .i64 x.i))), (2, .c (.ptr 0 0)), (3, .c (.ptr 1 0))], [.var [.d (.int .i8 k), .d (.str name), .d (.str arg), .d (.int .i64 num), .d (.int .i8 tk), .d (.sl 0 2 (Ty.rows tks)), .d (.int .i8 uk), .d (.sl 0 2 (Ty.rows uks)), .d (.int .i64 label), .d (.int .i64 place), .d (.sl 0 11 (Tm.rows ks))], .var [.d (.int .i8 k), .d (.str name), .d (.str arg), .d (.int .i64 num), .d (.int .i8 tk), .d (.sl 0 2 (Ty.rows tks)), .d (.int .i8 uk), .d (.sl 0 2 (Ty.rows uks)), .d (.int .i64 label), .d (.int .i64 place), .d (.sl 0 11 (Tm.rows ks))]], []⟩)
      (fun x => ks.length - x.i) ⟨0, Nat.zero_le _⟩ 2 (fun _ => rfl) (Nat.le_of_ble_eq_true rfl) ⟨⟨rfl, rfl, rfl, trivial⟩, rfl, rfl, ⟨[], rfl⟩, rfl⟩ (fun x => ?_)
    obtain ⟨i, hi⟩ := x
    repeat' first | refine AW.seq ?_ | refine AW.block ?_ | (refine (_root_.id : AW _ _ _ (.region 6 _ true) _ _ → _) ?_; refine AW.draw (id := 6) tab_ok mixed [0, 1, 2, 3, 4, 5, 6, 7, 8, 9, 10, 11] (by kernel_rfl) ?_; conv => whnf) | ((first | refine AW.region tab_ok ?_ | refine AW.cond ?_ | refine AW.skip ?_ | refine AW.ret ?_ | refine AW.exit ?_); conv => whnf) | ((first | refine And.intro (@rfl Val _) ?_ | refine And.intro (by decide) ?_ | refine cs (fun _ => ?_) (fun _ => ?_)) <;> conv => whnf)
    · rename_i h1
      simp only [trows_length] at h1 ⊢
      have := of_decide_eq_true h1
      refine ⟨by omega, fun row hrow => ?_⟩
      obtain ⟨⟨kx, namex, argx, numx, tkx, tksx, ukx, uksx, labelx, placex, ksx⟩, ht, rfl⟩ := trows_get ks i row (by simpa using hrow)
      have hlt : i < ks.length := (List.getElem?_eq_some_iff.1 ht).1
      have hm := List.mem_of_getElem? ht
      conv => whnf
      repeat' first | refine AW.seq ?_ | refine AW.block ?_ | (refine (_root_.id : AW _ _ _ (.region 6 _ true) _ _ → _) ?_; refine AW.draw (id := 6) tab_ok mixed [0, 1, 2, 3, 4, 5, 6, 7, 8, 9, 10, 11] (by kernel_rfl) ?_; conv => whnf) | ((first | refine AW.region tab_ok ?_ | refine AW.cond ?_ | refine AW.skip ?_ | refine AW.ret ?_ | refine AW.exit ?_); conv => whnf) | ((first | refine And.intro (@rfl Val _) ?_ | refine And.intro (by decide) ?_ | refine cs (fun _ => ?_) (fun _ => ?_)) <;> conv => whnf)
      simp only [trows_length]
      refine ⟨by omega, fun row hrow => ?_⟩
      obtain ⟨y, hu, rfl⟩ := trows_get ks i row (by simpa using hrow)
      rw [ht] at hu
      cases hu
      have hc := ih _ hm (h4 _ hm)
      conv => whnf
      repeat' first | refine AW.seq ?_ | refine AW.block ?_ | (refine (_root_.id : AW _ _ _ (.region 6 _ true) _ _ → _) ?_; refine AW.draw (id := 6) tab_ok mixed [0, 1, 2, 3, 4, 5, 6, 7, 8, 9, 10, 11] (by kernel_rfl) ?_; conv => whnf) | ((first | refine AW.region tab_ok ?_ | refine AW.cond ?_ | refine AW.skip ?_ | refine AW.ret ?_ | refine AW.exit ?_); conv => whnf) | (refine (hc).mono ?_; rintro _ _ ⟨rfl, rfl⟩; conv => whnf) | ((first | refine And.intro (@rfl Val _) ?_ | refine And.intro (by decide) ?_ | refine cs (fun _ => ?_) (fun _ => ?_)) <;> conv => whnf)
      rw [wrap64 (x := (i : Int) + 1) (by omega) (by omega)]
      exact ⟨⟨i + 1, hlt⟩, ⟨⟨rfl, rfl, rfl, trivial⟩, rfl, rfl, ⟨[], rfl⟩, rfl⟩, show ks.length - (i + 1) < ks.length - i by omega⟩
    · exact ⟨rfl, rfl⟩
theorem thl_of : ∀ {l m : List DV}, ThCells l m → ThL (l.map .d) (m.map .d)
  | [], [], h => .nil
  | [], _ :: _, h => by have := h.1; simp at this
  | _ :: _, [], h => by have := h.1; simp at this
  | x :: l, y :: m, h => .cons (.d _ _ (h.2 0 x y rfl rfl)) (thl_of ⟨by simpa using h.1, fun i u v hu hv => h.2 (i + 1) u v (by simpa using hu) (by simpa using hv)⟩)
theorem thl_keep0 {l : List DV} (h : RtC 0 l l) : ThL (l.map .d) (l.map .d) := thl_of ⟨rfl, fun i x y hx hy => by
  rw [hx] at hy; cases hy; exact .keep0 _ (h.get.2 i x x hx hx)⟩
theorem tm_rt0 (t : Tm) : RtC 0 t.cells t.cells := by have := tm_rt 0 0 0 t; rwa [tm_R0] at this
theorem likeTm14_call (t : Tm) (h : TmOk t) : ACall Tryz.prog 11 [t.valR 1 4, t.val] [] (fun o σ => o = .ret (.c (.d (.bool true))) ∧ σ = []) :=
  (likeTmO_call t h).any (.cons (by rw [← tm_V0]; exact tm_rtV 1 4 0 t) (.cons (by rw [← tm_V0]; exact tm_rtV 0 0 0 t) .nil)) (.bool _)
end Go.Proofs.YtmaokphbfjpodaaGreatDoor.E

/- Walks: ParseTexts. No conditions. -/
set_option linter.unusedVariables false
set_option linter.unusedSimpArgs false
namespace Go.Proofs.YtmaokphbfjpodaaGreatDoor.E
open Go

theorem pt_pl (x : ByteArray) : PlS ⟨56, [(0, .c (.d (.str x)))], [], []⟩ := ⟨fun p hp => by
    rcases List.mem_cons.1 hp with rfl | hp
    · exact .c _ (.d _ (.str _))
    · simp at hp, fun o ho => by simp at ho, rfl⟩
theorem pt_th (x : ByteArray) (t : Tm) : ThS ⟨56, [(0, .c (.d (.str x))), (3, .c (.ptr 0 0)), (5, .c (.ptr 1 0))], [.var ((t.cellsR 1 4).map .d), .var (t.cells.map .d), .var [.d (.int .i64 0), .d (.int .i64 0), .d (.str ⟨#[]⟩)], .var [.d (.int .i64 0), .d (.int .i64 0), .d (.str ⟨#[]⟩)]], []⟩ ⟨56, [(0, .c (.d (.str x))), (3, .c (.ptr 0 0)), (5, .c (.ptr 1 0))], [.var (t.cellsW.map .d), .var (t.cells.map .d), .var [.d (.int .i64 0), .d (.int .i64 0), .d (.str ⟨#[]⟩)], .var [.d (.int .i64 0), .d (.int .i64 0), .d (.str ⟨#[]⟩)]], []⟩ := ⟨fun p hp => by
    rcases List.mem_cons.1 hp with rfl | hp
    · exact .c (.d _ _ (.keep0 _ (.str _)))
    · rcases List.mem_cons.1 hp with rfl | hp
      · exact .c (.ptr _ _)
      · rcases List.mem_cons.1 hp with rfl | hp
        · exact .c (.ptr _ _)
        · simp at hp,
  .cons (thl_of (tm_th t)) (.cons (thl_keep0 (tm_rt0 t)) (.cons (thl_keep0 (l := [.int .i64 0, .int .i64 0, .str ⟨#[]⟩]) (.cons (.int _ _) (.cons (.int _ _) (.cons (.str _) .nil)))) (.cons (thl_keep0 (l := [.int .i64 0, .int .i64 0, .str ⟨#[]⟩]) (.cons (.int _ _) (.cons (.int _ _) (.cons (.str _) .nil)))) .nil))), rfl, rfl, rfl⟩
set_option maxRecDepth 10000 in
theorem spoilTyE_call (k : Int) : ACall Tryz.prog 24 [.agg [.d (.int .i8 k), .d (.sl 0 2 [])]] [] (fun o σ => o = .ret (.tup []) ∧ σ = []) := by
  refine ACall.body tab_ok (ρ := 0) (N := 21) Tryz.func24 rfl rfl rfl rfl rfl ?_
  repeat' first | ((refine AW.rounds 2 ?_; conv => whnf)) | refine AW.seq ?_ | refine AW.block ?_ | ((first | refine AW.region tab_ok ?_ | refine AW.cond ?_ | refine AW.skip ?_ | refine AW.ret ?_ | refine AW.exit ?_); conv => whnf) | ((first | refine And.intro (@rfl Val _) ?_ | refine And.intro (by decide) ?_ | refine cs (fun _ => ?_) (fun _ => ?_)) <;> conv => whnf)
  all_goals exact ⟨rfl, rfl⟩
set_option maxRecDepth 10000 in
theorem spoilTmE_call : ACall Tryz.prog 12 [tmZ.val] [] (fun o σ => o = .ret (.tup []) ∧ σ = []) := by
  have c0 := spoilTyE_call 0
  refine ACall.body tab_ok (ρ := 0) (N := 27) Tryz.func12 rfl rfl rfl rfl rfl ?_
  repeat' first | ((refine AW.rounds 2 ?_; conv => whnf)) | refine AW.seq ?_ | refine AW.block ?_ | ((first | refine AW.region tab_ok ?_ | refine AW.cond ?_ | refine AW.skip ?_ | refine AW.ret ?_ | refine AW.exit ?_); conv => whnf) | (refine (c0).mono ?_; rintro _ _ ⟨rfl, rfl⟩; conv => whnf) | ((first | refine And.intro (@rfl Val _) ?_ | refine And.intro (by decide) ?_ | refine cs (fun _ => ?_) (fun _ => ?_)) <;> conv => whnf)
  all_goals exact ⟨rfl, rfl⟩
theorem tmZ_ok : TmOk tmZ := .node (.node (by simp) (by simp)) (.node (by simp) (by simp)) (by simp) (by simp)
set_option maxRecDepth 10000 in
set_option maxHeartbeats 4000000 in
theorem law_ParseTexts (x : ByteArray) : ACall Tryz.prog 3 [.c (.d (.str x))] [] (fun o σ => o = .ret (.c (.d (.bool true))) ∧ σ = []) := by
  have W := wakes04_call
  by_cases hsz : x.size > 131072
  · refine ACall.body tab_ok (ρ := 0) (N := 56) Tryz.func3 rfl rfl rfl rfl rfl ?_
    repeat' first | refine AW.seq ?_ | refine AW.block ?_ | ((first | refine AW.region tab_ok ?_ | refine AW.cond ?_ | refine AW.skip ?_ | refine AW.ret ?_ | refine AW.exit ?_); conv => whnf) | (refine (W).mono ?_; rintro _ _ ⟨rfl, rfl⟩; conv => whnf) | ((first | refine And.intro (@rfl Val _) ?_ | refine And.intro (by decide) ?_ | refine cs (fun _ => ?_) (fun _ => ?_)) <;> conv => whnf)
    all_goals first | exact ⟨rfl, rfl⟩ | (exfalso; simp_all; omega)
  have hd0 : decide ((x.size : Int) > 131072) = false := by simp; omega
  have P := parseTerm_call x
  have R := rterm_call x
  unfold termO at P
  unfold rtermO at R
  cases hr : readF x with
  | error y =>
    obtain ⟨e, a, w⟩ := y
    rw [hr] at P R
    have F := fault1_call e a w (read_code hr)
    have L := likeTmO_call tmZ tmZ_ok
    have Z := spoilTmE_call
    refine ACall.body tab_ok (ρ := 0) (N := 56) Tryz.func3 rfl rfl rfl rfl rfl ?_
    repeat' first | ((refine cs (fun g => absurd (hd0.symm.trans g) (by decide)) (fun _ => ?_); conv => whnf)) | refine AW.seq ?_ | refine AW.block ?_ | ((first | refine AW.region tab_ok ?_ | refine AW.cond ?_ | refine AW.skip ?_ | refine AW.ret ?_ | refine AW.exit ?_); conv => whnf) | ((first | refine (P).mono ?_ | refine (R).mono ?_ | refine (F).mono ?_ | refine (L).mono ?_ | refine (Z).mono ?_ | refine (W).mono ?_); rintro _ _ ⟨rfl, rfl⟩; conv => whnf) | ((first | refine And.intro (@rfl Val _) ?_ | refine And.intro (by decide) ?_ | refine cs (fun _ => ?_) (fun _ => ?_)) <;> conv => whnf)
    all_goals first | exact ⟨rfl, rfl⟩ | (exfalso; simp_all; done)
  | ok t =>
    rw [hr] at P R
    have Q := parseTermT_call x t hr
    have F := fault0_call
    have hT := read_ok hr
    have L := likeTmO_call t hT
    have L2 := likeTm14_call t hT
    have Z := spoilTm_call t hT
    have pl := pt_pl x
    have th := pt_th x t
    clear hT hr
    obtain ⟨k, nm, ag, nu, tk, tks, uk, uks, lb, pl0, ks⟩ := t
    refine ACall.body tab_ok (ρ := 0) (N := 56) Tryz.func3 rfl rfl rfl rfl rfl ?_
    repeat' first | ((refine FitsX.mk ⟨?_, rfl, rfl, ⟨[], rfl⟩, rfl⟩ rfl; repeat' (first | exact rfl | exact trivial | refine ⟨rfl, ?_⟩))) | ((refine (id : AW _ _ _ (.seq (.region 3 _ false) _) _ _ → _) ?_; refine AW.fits (I := ⟨56, [(0, .c (.d (.str x)))], [], []⟩) ⟨⟨rfl, trivial⟩, rfl, rfl, ⟨[], rfl⟩, rfl⟩ rfl ?_; refine AW.hide pl (fun w0 C0 hI0 => AWx.step (S1 := ⟨56, [(0, .c (.d (.str x))), (3, .c (.ptr 0 0)), (4, .c (.d .nili))], [.var (((Tm.node k nm ag nu tk tks uk uks lb pl0 ks).cellsR 1 4).map .d)], []⟩) rfl ?_ (AWx.step (S1 := ⟨56, [(0, .c (.d (.str x))), (3, .c (.ptr 0 0)), (4, .c (.d .nili)), (5, .c (.ptr 1 0)), (6, .c (.ptr 2 0))], [.var (((Tm.node k nm ag nu tk tks uk uks lb pl0 ks).cellsR 1 4).map .d), .var ((Tm.node k nm ag nu tk tks uk uks lb pl0 ks).cells.map .d), .var [.d (.int .i64 0), .d (.int .i64 0), .d (.str ⟨#[]⟩)]], []⟩) rfl ?_ (AWx.step (S1 := ⟨56, [(0, .c (.d (.str x))), (3, .c (.ptr 0 0)), (5, .c (.ptr 1 0)), (6, .c (.ptr 2 0)), (7, .c (.ptr 3 0)), (8, .c (.d (.bool true)))], [.var (((Tm.node k nm ag nu tk tks uk uks lb pl0 ks).cellsR 1 4).map .d), .var ((Tm.node k nm ag nu tk tks uk uks lb pl0 ks).cells.map .d), .var [.d (.int .i64 0), .d (.int .i64 0), .d (.str ⟨#[]⟩)], .var [.d (.int .i64 0), .d (.int .i64 0), .d (.str ⟨#[]⟩)]], []⟩) rfl ?_ (AWx.step (S1 := ⟨56, [(0, .c (.d (.str x))), (3, .c (.ptr 0 0)), (5, .c (.ptr 1 0))], [.var (((Tm.node k nm ag nu tk tks uk uks lb pl0 ks).cellsR 1 4).map .d), .var ((Tm.node k nm ag nu tk tks uk uks lb pl0 ks).cells.map .d), .var [.d (.int .i64 0), .d (.int .i64 0), .d (.str ⟨#[]⟩)], .var [.d (.int .i64 0), .d (.int .i64 0), .d (.str ⟨#[]⟩)]], []⟩) rfl ?_ (AWx.thaw (S' := ⟨56, [(0, .c (.d (.str x))), (3, .c (.ptr 0 0)), (5, .c (.ptr 1 0))], [.var ((Tm.node k nm ag nu tk tks uk uks lb pl0 ks).cellsW.map .d), .var ((Tm.node k nm ag nu tk tks uk uks lb pl0 ks).cells.map .d), .var [.d (.int .i64 0), .d (.int .i64 0), .d (.str ⟨#[]⟩)], .var [.d (.int .i64 0), .d (.int .i64 0), .d (.str ⟨#[]⟩)]], []⟩) hI0 th ?_))))))) | ((refine cs (fun g => absurd (hd0.symm.trans g) (by decide)) (fun _ => ?_); conv => whnf)) | refine AW.seq ?_ | refine AW.block ?_ | ((first | refine AW.region tab_ok ?_ | refine AW.cond ?_ | refine AW.skip ?_ | refine AW.ret ?_ | refine AW.exit ?_); conv => whnf) | ((first | refine (Q).mono ?_ | refine (P).mono ?_ | refine (R).mono ?_ | refine (F).mono ?_ | refine (L2).mono ?_ | refine (L).mono ?_ | refine (Z).mono ?_ | refine (W).mono ?_); rintro _ _ ⟨rfl, rfl⟩; conv => whnf) | ((first | refine And.intro (@rfl Val _) ?_ | refine And.intro (by decide) ?_ | refine cs (fun _ => ?_) (fun _ => ?_)) <;> conv => whnf)
    all_goals first | exact ⟨rfl, rfl⟩ | exact trivial | (exfalso; simp_all; done)
end Go.Proofs.YtmaokphbfjpodaaGreatDoor.E

/- From a law's walk to its row: parts for all rows. No conditions. -/
namespace Go.Proofs.YtmaokphbfjpodaaGreatDoor.E
open Go Go.RowKit

theorem rep1 {w : World} {C : Cz} {u : Value} {x : Val} (h : RepV w C u x) : RepVs w C #[u].toList [x] := .cons h ⟨rfl, fun i v x h => by simp at h⟩
/-- A law that is true: as a call. -/
theorem law_true {P : Program} {f : FuncId} {args : List Val} (h : ACall P f args [] (fun o σ => o = .ret (.c (.d (.bool true))) ∧ σ = [])) {w : World} {vs : Array Value} (hv : RepVs w (czAll w) vs.toList args) (hg : GlobOk w (czAll w) := by intro a v h; simp [globs] at h) :
    Calls P f vs w fun e w' => e = .returned (.bool true) ∧ Below w.heap.size w w' :=
  (h.out w (czAll w) vs (inv_all w hg) hv).mono fun e w' ⟨o, σ', C', ⟨ho, hs⟩, hI, hX, hO⟩ => by
    subst ho; subst hs
    obtain ⟨v, rfl, hr⟩ := hO
    have := bool_of hr
    subst this
    exact ⟨rfl, hX.os, hX.tape, hX.output, hX.size, fun k hk => hX.frame k hk (fun ⟨i, o, e, h, _⟩ => by simp at h) (fun r hr => by simp only [czAll, rgAll] at hr; rw [if_pos hk] at hr; cases hr; rfl)⟩
end Go.Proofs.YtmaokphbfjpodaaGreatDoor.E

/- From a row's reading of a term to a tree. No conditions. -/
set_option linter.unusedVariables false
set_option linter.unusedSimpArgs false
namespace Go.Proofs.YtmaokphbfjpodaaGreatDoor.E
open Go Go.RowKit

theorem u9 : Tryz.prog.underlying 9 = some .string := by kernel_rfl
theorem u2 : Tryz.prog.underlying 2 = some (.int .i64) := by kernel_rfl
theorem c2 : Tryz.prog.cellsOf 2 = 1 := by kernel_rfl
theorem c3 : Tryz.prog.cellsOf 3 = 1 := by kernel_rfl
section
variable {H : Type} {enc : TypeId × Value → H} {w : World} {base : Nat} {spare : Nat → Bool} {held : Bool}
end
end Go.Proofs.YtmaokphbfjpodaaGreatDoor.E
