/- Texts, merged: Pl5, Cl2, Pm3, Pm4. No conditions. -/
import Derived.Test.YtmaokphbfjpodaaDoorGenX7
import Derived.Test.YtmaokphbfjpodaaDoorGenX4
import Derived.Test.YtmaokphbfjpodaaDoorGenX5
/- A fault has a number; how a text that is cut is refused. In plain Lean, no conditions. -/
set_option linter.unusedVariables false
set_option linter.unusedSimpArgs false
set_option linter.unusedSectionVars false
namespace Go.Proofs.YtmaokphbfjpodaaDoor.E
open Go

def Bn {α : Type} (p : PR α) : Prop := ∀ e a w, p = .bad e a w → e ≠ 0
theorem bn_ok {α : Type} {x : α} {j : Nat} : Bn (.ok x j : PR α) := fun _ _ _ h => by cases h
theorem bn_bad {α : Type} {e a : Int} {w : ByteArray} (he : e ≠ 0) : Bn (.bad e a w : PR α) := fun _ _ _ h => by cases h; exact he
theorem bn_wbad {α : Type} {l : List Wd} {i : Nat} : Bn (wbad l i : PR α) := bn_bad (by decide)
theorem bn_bind {α β : Type} {p : PR α} {f : α → Nat → PR β} (h : Bn p) (hf : ∀ x j, Bn (f x j)) : Bn (bindP p f) := by
  cases p with
  | ok x j => exact hf x j
  | bad e a w => exact bn_bad (h e a w rfl)
theorem bn_ite {α : Type} {P : Prop} [Decidable P] {a b : PR α} (ha : Bn a) (hb : Bn b) : Bn (if P then a else b) := by
  split
  · exact ha
  · exact hb
section
variable {l : List Wd}
theorem tLoop_bn {part : Nat → PR Ty} (hp : ∀ i, Bn (part i)) (k : Int) (s : ByteArray) : ∀ (n : Nat) (a : Ty) (i : Nat), Bn (tLoop l part k s n a i)
  | 0, a, i => bn_ok
  | n + 1, a, i => by
    unfold tLoop
    exact bn_ite (bn_bind (hp _) fun x j => tLoop_bn hp k s n _ _) bn_ok
theorem tAtom_bn {W : Nat → PR Ty} (hW : ∀ i, Bn (W i)) (i : Nat) : Bn (tAtom l W i) := by
  unfold tAtom
  repeat' first | with_reducible exact bn_ok | with_reducible exact bn_wbad | (with_reducible refine bn_bind (hW _) (fun x j => ?_)) | with_reducible exact hW _ | (with_reducible refine bn_ite ?_ ?_)
theorem tLeft_bn {part : Nat → PR Ty} (hp : ∀ i, Bn (part i)) (k : Int) (s : ByteArray) (i : Nat) : Bn (tLeft l part k s i) := by
  unfold tLeft
  exact bn_bind (hp _) fun x j => tLoop_bn hp k s _ _ _
theorem tWhole_bn : ∀ (n i : Nat), Bn (tWhole l n i)
  | 0, i => bn_wbad
  | n + 1, i => by
    unfold tWhole
    exact bn_bind (tLeft_bn (fun i => tLeft_bn (fun i => tAtom_bn (tWhole_bn n) i) _ _ i) _ _ i) fun x j => bn_ite (bn_bind (tWhole_bn n _) fun y j => bn_ok) bn_ok
theorem typP_bn (i : Nat) : Bn (typP l i) := by
  unfold typP
  refine bn_bind (tWhole_bn _ i) fun x j => ?_
  split
  · exact bn_ok
  · rename_i h; exact bn_bad h
theorem mustP_bn (k : Int) (s : ByteArray) (i : Nat) : Bn (mustP l k s i) := by
  unfold mustP
  exact bn_ite bn_ok bn_wbad
theorem nameP_bn (i : Nat) : Bn (nameP l i) := by
  unfold nameP
  split
  · exact bn_ite bn_ok bn_wbad
  · exact bn_wbad
theorem numP_bn (p : Int) (i : Nat) : Bn (numP l p i) := by
  unfold numP
  split
  · exact bn_ite bn_ok bn_wbad
  · exact bn_wbad
theorem annP_bn (i : Nat) : Bn (annP l i) := by
  unfold annP
  repeat' first | with_reducible exact bn_ok | with_reducible exact bn_wbad | (with_reducible refine bn_bind (mustP_bn _ _ _) (fun x j => ?_)) | (with_reducible refine bn_bind (nameP_bn _) (fun x j => ?_)) | (with_reducible refine bn_bind (typP_bn _) (fun x j => ?_)) | (with_reducible refine bn_bind (numP_bn _ _) (fun x j => ?_)) | with_reducible exact mustP_bn _ _ _ | with_reducible exact nameP_bn _ | with_reducible exact typP_bn _ | with_reducible exact numP_bn _ _ | (with_reducible refine bn_ite ?_ ?_)
theorem isLoop_bn : ∀ (n : Nat) (t : Tm) (i : Nat), Bn (isLoop l n t i)
  | 0, t, i => bn_ok
  | n + 1, t, i => by
    unfold isLoop
    exact bn_ite (bn_bind (typP_bn _) fun a j => isLoop_bn n _ _) bn_ok
theorem opP_bn {part : Nat → PR Tm} (hp : ∀ i, Bn (part i)) (t : Tm) (i : Nat) : Bn (opP l part t i) := by
  unfold opP
  exact bn_bind (hp _) fun u j => bn_ok
theorem opLoop_bn {part : Nat → PR Tm} (hp : ∀ i, Bn (part i)) (ops : List ByteArray) : ∀ (n : Nat) (t : Tm) (i : Nat), Bn (opLoop l part ops n t i)
  | 0, t, i => bn_ok
  | n + 1, t, i => by
    unfold opLoop
    exact bn_ite (bn_bind (opP_bn hp _ _) fun u j => opLoop_bn hp ops n _ _) bn_ok
theorem pAtom_bn {W : Nat → PR Tm} (hW : ∀ i, Bn (W i)) (i : Nat) : Bn (pAtom l W i) := by
  unfold pAtom
  split
  · exact bn_wbad
  · repeat' first | with_reducible exact bn_ok | with_reducible exact bn_wbad | (with_reducible refine bn_bind (hW _) (fun x j => ?_)) | (with_reducible refine bn_bind (mustP_bn _ _ _) (fun x j => ?_)) | (with_reducible refine bn_bind (nameP_bn _) (fun x j => ?_)) | (with_reducible refine bn_bind (typP_bn _) (fun x j => ?_)) | (with_reducible refine bn_bind (numP_bn _ _) (fun x j => ?_)) | with_reducible exact hW _ | with_reducible exact mustP_bn _ _ _ | with_reducible exact nameP_bn _ | with_reducible exact typP_bn _ | with_reducible exact numP_bn _ _ | (with_reducible refine bn_ite ?_ ?_)
theorem appLoop_bn {W : Nat → PR Tm} (hW : ∀ i, Bn (W i)) : ∀ (n : Nat) (t : Tm) (i : Nat), Bn (appLoop l W n t i)
  | 0, t, i => bn_ok
  | n + 1, t, i => by
    unfold appLoop
    exact bn_ite (bn_bind (hW _) fun a j => bn_bind (mustP_bn _ _ _) fun _ j => appLoop_bn hW n _ _) bn_ok
theorem inP_bn {un : Nat → PR Tm} (hu : ∀ i, Bn (un i)) (k p : Int) (i : Nat) : Bn (inP l un k p i) := by
  unfold inP
  repeat' first | with_reducible exact bn_ok | with_reducible exact bn_wbad | (with_reducible refine bn_bind (hu _) (fun x j => ?_)) | (with_reducible refine bn_bind (mustP_bn _ _ _) (fun x j => ?_)) | (with_reducible refine bn_bind (nameP_bn _) (fun x j => ?_)) | (with_reducible refine bn_bind (typP_bn _) (fun x j => ?_)) | (with_reducible refine bn_bind (numP_bn _ _) (fun x j => ?_)) | with_reducible exact hu _ | with_reducible exact mustP_bn _ _ _ | with_reducible exact nameP_bn _ | with_reducible exact typP_bn _ | with_reducible exact numP_bn _ _ | (with_reducible refine bn_ite ?_ ?_)
theorem pUn_bn {W : Nat → PR Tm} (hW : ∀ i, Bn (W i)) : ∀ (m i : Nat), Bn (pUn l W m i)
  | 0, i => bn_wbad
  | m + 1, i => by
    have ih := pUn_bn hW m
    have ha := pAtom_bn (l := l) hW
    have hl := appLoop_bn (l := l) hW
    have hin := inP_bn (l := l) ih
    unfold pUn
    repeat' first | with_reducible exact bn_ok | with_reducible exact bn_wbad | (with_reducible refine bn_bind (ih _) (fun x j => ?_)) | (with_reducible refine bn_bind (ha _) (fun x j => ?_)) | (with_reducible refine bn_bind (hl _ _ _) (fun x j => ?_)) | (with_reducible refine bn_bind (hin _ _ _) (fun x j => ?_)) | (with_reducible refine bn_bind (mustP_bn _ _ _) (fun x j => ?_)) | (with_reducible refine bn_bind (nameP_bn _) (fun x j => ?_)) | (with_reducible refine bn_bind (typP_bn _) (fun x j => ?_)) | (with_reducible refine bn_bind (numP_bn _ _) (fun x j => ?_)) | with_reducible exact ih _ | with_reducible exact ha _ | with_reducible exact hl _ _ _ | with_reducible exact hin _ _ _ | with_reducible exact mustP_bn _ _ _ | with_reducible exact nameP_bn _ | with_reducible exact typP_bn _ | with_reducible exact numP_bn _ _ | (with_reducible refine bn_ite ?_ ?_)
theorem pIs_bn {W : Nat → PR Tm} (hW : ∀ i, Bn (W i)) (i : Nat) : Bn (pIs l W i) := by
  have hu : ∀ i, Bn (pU l W i) := fun i => pUn_bn hW _ i
  have hm : ∀ i, Bn (pMul l W i) := fun i => bn_bind (hu i) fun t j => opLoop_bn hu _ _ t j
  have hs : ∀ i, Bn (pSum l W i) := fun i => bn_bind (hm i) fun t j => opLoop_bn hm _ _ t j
  have hc : ∀ i, Bn (pCmp l W i) := fun i => bn_bind (hs i) fun t j => bn_ite (opP_bn hs t j) bn_ok
  exact bn_bind (hc i) fun t j => isLoop_bn _ t j
theorem branchP_bn {W : Nat → PR Tm} (hW : ∀ i, Bn (W i)) (i : Nat) : Bn (branchP l W i) := by
  unfold branchP
  repeat' first | with_reducible exact bn_ok | with_reducible exact bn_wbad | (with_reducible refine bn_bind (hW _) (fun x j => ?_)) | (with_reducible refine bn_bind (mustP_bn _ _ _) (fun x j => ?_)) | (with_reducible refine bn_bind (nameP_bn _) (fun x j => ?_)) | (with_reducible refine bn_bind (typP_bn _) (fun x j => ?_)) | (with_reducible refine bn_bind (numP_bn _ _) (fun x j => ?_)) | with_reducible exact hW _ | with_reducible exact mustP_bn _ _ _ | with_reducible exact nameP_bn _ | with_reducible exact typP_bn _ | with_reducible exact numP_bn _ _ | (with_reducible refine bn_ite ?_ ?_)
theorem pStep_bn {W : Nat → PR Tm} (hW : ∀ i, Bn (W i)) (i : Nat) : Bn (pStep l W i) := by
  unfold pStep lamP letP ifP recP caseP
  repeat' first | with_reducible exact bn_ok | with_reducible exact bn_wbad | (with_reducible refine bn_bind (hW _) (fun x j => ?_)) | (with_reducible refine bn_bind (annP_bn _) (fun x j => ?_)) | (with_reducible refine bn_bind (branchP_bn hW _) (fun x j => ?_)) | (with_reducible refine bn_bind (pIs_bn hW _) (fun x j => ?_)) | (with_reducible refine bn_bind (mustP_bn _ _ _) (fun x j => ?_)) | (with_reducible refine bn_bind (nameP_bn _) (fun x j => ?_)) | (with_reducible refine bn_bind (typP_bn _) (fun x j => ?_)) | (with_reducible refine bn_bind (numP_bn _ _) (fun x j => ?_)) | with_reducible exact hW _ | with_reducible exact annP_bn _ | with_reducible exact branchP_bn hW _ | with_reducible exact pIs_bn hW _ | with_reducible exact mustP_bn _ _ _ | with_reducible exact nameP_bn _ | with_reducible exact typP_bn _ | with_reducible exact numP_bn _ _ | (with_reducible refine bn_ite ?_ ?_)
theorem pTerm_bn : ∀ (n i : Nat), Bn (pTerm l n i)
  | 0, i => bn_wbad
  | n + 1, i => pStep_bn (pTerm_bn n) i
theorem wordsP_bn : Bn (wordsP l) := by
  unfold wordsP
  exact bn_bind (pTerm_bn _ _) fun t j => bn_ite (bn_bad (by decide)) (bn_ite (bn_bad (by decide)) bn_ok)
end
theorem wordL_code {p : Nat} {l : List UInt8} {e : Int} {w : ByteArray} (h : wordL p l = .error (e, w)) : e ≠ 0 := by
  cases l with
  | nil => cases h; decide
  | cons c l =>
    by_cases h1 : letterF c.toNat = true
    · rw [wordL_letter h1] at h
      split at h
      · cases h; decide
      · split at h <;> cases h
    · have h1 : letterF c.toNat = false := by simpa using h1
      by_cases h2 : digitF c.toNat = true
      · rw [wordL_digit h1 h2] at h
        split at h
        · cases h; decide
        · rename_i v hv
          by_cases hc : (spanL false (c :: l) > 1 ∧ c = 48) ∨ nextLetter ((c :: l).drop (spanL false (c :: l))) = true
          · rw [if_pos hc] at h; cases h; decide
          · rw [if_neg hc] at h; cases h
      · have h2 : digitF c.toNat = false := by simpa using h2
        by_cases h45 : c = 45
        · subst h45
          cases l with
          | nil => cases h
          | cons d r =>
            by_cases h62 : d = 62
            · subst h62; cases h
            · rw [wordL_dash fun q e => h62 (List.cons.inj e).1] at h; cases h
        · by_cases hm : c ∈ signsF
          · rw [wordL_sign h1 h2 h45 hm] at h; cases h
          · rw [wordL_none h1 h2 h45 hm] at h; cases h; decide
theorem scanL_code : ∀ (n p : Nat) (s : List UInt8) (x : Int × Int × ByteArray), scanL n p s = .error x → x.1 ≠ 0
  | 0, p, s, x, h => by cases h
  | n + 1, p, s, x, h => by
    rw [scanL_skip] at h
    by_cases hr : s.drop (skipL false s) = []
    · rw [hr, scanL_nil] at h; cases h
    · rw [scanL_step n _ _ (skipL_again s false) hr] at h
      split at h
      · rename_i e w hw
        cases h
        exact wordL_code hw
      · split at h
        · rename_i y hy
          cases h
          exact scanL_code n _ _ _ hy
        · cases h
theorem read_code {s : ByteArray} {x : Int × Int × ByteArray} (h : readF s = .error x) : x.1 ≠ 0 := by
  unfold readF at h
  split at h
  · rename_i y hy
    cases h
    unfold scanF at hy
    split at hy
    · cases hy; decide
    · split at hy
      · rename_i z hz
        cases hy
        exact scanL_code _ _ _ _ hz
      · cases hy
  · rename_i l hl
    obtain ⟨_, ws, hlw, _, _⟩ := scanF_ok hl
    have hE : EndW l ws.length := ⟨⟨0, s0, 0, s.size⟩, by rw [hlw]; simp, rfl⟩
    split at h
    · rename_i e a w hw
      cases h
      exact wordsP_bn e a w hw
    · rename_i t j hw
      have hj := wordsP_bd hE t j hw
      obtain ⟨w, hwj⟩ : ∃ w, l[j]? = some w := ⟨_, List.getElem?_eq_getElem (by rw [hlw]; simp; omega)⟩
      rw [hwj] at h
      simp only at h
      split at h
      · cases h
      · cases h; show (40 : Int) ≠ 0; decide
/-- The fault of a text, or none. -/
def fltF (s : ByteArray) : Int × Int × ByteArray := match readF s with
  | .ok _ => (0, 0, s0)
  | .error x => x
/-- How a text that is cut is refused. -/
theorem cut_fine {s : ByteArray} {l : List Wd} (h : scanF s = .ok l) {k m : Nat} (hk : k < l.length) (hc : scanF (s.extract 0 m) = .ok (cutW l k m)) :
    (fltF (s.extract 0 m)).1 = 0 ∨ (fltF (s.extract 0 m)).1 ≠ 40 ∨ ((fltF (s.extract 0 m)).2.1 = (m : Int) ∧ (fltF (s.extract 0 m)).2.2 = s0) ∨ ((fltF s).1 = 40 ∧ (fltF (s.extract 0 m)).2.1 = (fltF s).2.1 ∧ (fltF (s.extract 0 m)).2.2 = (fltF s).2.2) := by
  rcases wordsP_ct hk (e := (m : Int)) with (hw | ⟨c, a, w, hw, hne⟩ | ⟨x, hw⟩) | ⟨hw, hj⟩
  · have : fltF (s.extract 0 m) = (40, (m : Int), s0) := by unfold fltF readF; rw [hc]; simp only; rw [hw]
    rw [this]; exact .inr (.inr (.inl ⟨rfl, rfl⟩))
  · have : fltF (s.extract 0 m) = (c, a, w) := by unfold fltF readF; rw [hc]; simp only; rw [hw]
    rw [this]; exact .inr (.inl hne)
  · have : fltF (s.extract 0 m) = (0, 0, s0) := by
      unfold fltF readF; rw [hc]; simp only; rw [hw]; simp only; rw [cut_end hk]; rfl
    rw [this]; exact .inl rfl
  · cases hp : wordsP l with
    | bad e a w =>
      have e1 : fltF (s.extract 0 m) = (e, a, w) := by unfold fltF readF; rw [hc]; simp only; rw [hw, hp]
      have e2 : fltF s = (e, a, w) := by unfold fltF readF; rw [h]; simp only; rw [hp]
      rw [e1, e2]
      by_cases h40 : e = 40
      · exact .inr (.inr (.inr ⟨h40, rfl, rfl⟩))
      · exact .inr (.inl h40)
    | ok x j =>
      have hjk := hj x j hp
      obtain ⟨v, hv⟩ : ∃ v, l[j]? = some v := ⟨_, List.getElem?_eq_getElem (by omega)⟩
      by_cases h0 : v.kind = 0
      · have : fltF (s.extract 0 m) = (0, 0, s0) := by
          unfold fltF readF; rw [hc]; simp only; rw [hw, hp]; simp only; rw [cut_get hk hjk, hv]; simp only; rw [if_pos h0]
        rw [this]; exact .inl rfl
      · have e1 : fltF (s.extract 0 m) = (40, v.place, v.text) := by
          unfold fltF readF; rw [hc]; simp only; rw [hw, hp]; simp only; rw [cut_get hk hjk, hv]; simp only; rw [if_neg h0]
        have e2 : fltF s = (40, v.place, v.text) := by
          unfold fltF readF; rw [h]; simp only; rw [hp]; simp only; rw [hv]; simp only; rw [if_neg h0]
        rw [e1, e2]; exact .inr (.inr (.inr ⟨rfl, rfl, rfl⟩))
end Go.Proofs.YtmaokphbfjpodaaDoor.E

/- Terms that may be told; numbers in range. No conditions. -/
set_option linter.unusedVariables false
set_option linter.unusedSimpArgs false
namespace Go.Proofs.YtmaokphbfjpodaaDoor.E
open Go

def NumR (num : Int) : Prop := -9223372036854775808 ≤ num ∧ num ≤ 9223372036854775807
mutual
/-- All numbers are in range. -/
def tmInR : Tm → Prop
  | .node _ _ _ num _ _ _ _ _ _ ks => NumR num ∧ tmInRs ks
def tmInRs : List Tm → Prop
  | [] => True
  | t :: l => tmInR t ∧ tmInRs l
end
mutual
def tmBad : Tm → Bool
  | .node k name arg num tk tks uk uks label place ks => (decide (k = 17) || (decide (k = 1) && decide (num = -9223372036854775808))) || tmBads ks
def tmBads : List Tm → Bool
  | [] => false
  | t :: l => tmBad t || tmBads l
end
end Go.Proofs.YtmaokphbfjpodaaDoor.E

/- What the parser takes is a term, in plain Lean. No conditions. -/
set_option linter.unusedVariables false
set_option linter.unusedSimpArgs false
set_option linter.unusedSectionVars false
namespace Go.Proofs.YtmaokphbfjpodaaDoor.E
open Go

def Gd {α : Type} (Q : α → Prop) (p : PR α) : Prop := ∀ x j, p = .ok x j → Q x
/-- Words as the scanner makes them. -/
def WsOk (l : List Wd) : Prop := ∀ w ∈ l, (w.kind = 1 → nameF w.text = true) ∧ (w.kind = 2 → 0 ≤ w.num ∧ w.num ≤ 9223372036854775807)
def Good (t : Tm) : Prop := tmright t = true ∧ tmInR t ∧ tmBad t = false
theorem gd_bad {α : Type} {Q : α → Prop} {e a : Int} {w : ByteArray} : Gd Q (.bad e a w : PR α) := fun x j h => by cases h
theorem gd_wbad {α : Type} {Q : α → Prop} {l : List Wd} {i : Nat} : Gd Q (wbad l i : PR α) := gd_bad
theorem gd_ok {α : Type} {Q : α → Prop} {x : α} {j : Nat} (h : Q x) : Gd Q (.ok x j : PR α) := fun y j h => by cases h; assumption
theorem gd_bind {α β : Type} {P : α → Prop} {Q : β → Prop} {p : PR α} {f : α → Nat → PR β} (h : Gd P p) (hf : ∀ x j, P x → Gd Q (f x j)) : Gd Q (bindP p f) := by
  cases p with
  | ok x j => exact hf x j (h x j rfl)
  | bad e a w => exact gd_bad
theorem gd_ite {α : Type} {Q : α → Prop} {P : Prop} [Decidable P] {a b : PR α} (ha : Gd Q a) (hb : Gd Q b) : Gd Q (if P then a else b) := by
  split
  · exact ha
  · exact hb
theorem tmInRs_all : ∀ {ks : List Tm}, (∀ t ∈ ks, tmInR t) → tmInRs ks
  | [], _ => trivial
  | t :: l, h => ⟨h t (by simp), tmInRs_all fun x hx => h x (by simp [hx])⟩
theorem tmBads_all : ∀ {ks : List Tm}, (∀ t ∈ ks, tmBad t = false) → tmBads ks = false
  | [], _ => rfl
  | t :: l, h => by rw [tmBads, h t (List.mem_cons_self ..), tmBads_all fun x hx => h x (List.mem_cons_of_mem _ hx)]; rfl
theorem good_tn {k : Int} {name arg : ByteArray} {num : Int} {a b : Ty} {p : Int} {ks : List Tm} (h1 : kidsK k = ks.length) (h2 : k ≠ 17) (h3 : nameK k = true → nameF name = true) (h4 : argK k = true → nameF arg = true) (h5 : typeK k = true → tcheck a = 0) (h6 : toK k = true → tcheck b = 0)
    (h7 : k = 15 → opF name = true) (h8 : k = 1 → -9223372036854775808 < num) (h9 : -9223372036854775808 ≤ num ∧ num ≤ 9223372036854775807) (h10 : ∀ t ∈ ks, Good t) : Good (tn k name arg num a b p ks) := by
  obtain ⟨tk, tks⟩ := a
  obtain ⟨uk, uks⟩ := b
  refine ⟨?_, ?_, ?_⟩
  · simp only [tn, tmright, ownRight, Bool.and_eq_true, Bool.or_eq_true, Bool.not_eq_true', decide_eq_true_eq, decide_eq_false_iff_not]
    refine ⟨⟨⟨⟨⟨⟨⟨h1, .inl h2⟩, ?_⟩, ?_⟩, ?_⟩, ?_⟩, ?_⟩, (tmrights_all ks).2 fun t ht => (h10 t ht).1⟩
    · cases hq : nameK k <;> simp_all
    · cases hq : argK k <;> simp_all
    · cases hq : typeK k <;> simp_all
    · cases hq : toK k <;> simp_all
    · by_cases hq : k = 15 <;> simp_all
  · exact ⟨h9, tmInRs_all fun t ht => (h10 t ht).2.1⟩
  · simp only [tn, tmBad, Bool.or_eq_false_iff, Bool.and_eq_false_iff, decide_eq_false_iff_not]
    refine ⟨⟨h2, ?_⟩, tmBads_all fun t ht => (h10 t ht).2.2⟩
    by_cases hq : k = 1
    · exact .inr (by have := h8 hq; omega)
    · exact .inl hq
section
variable {l : List Wd} (hl : WsOk l)
include hl
theorem typP_gd (i : Nat) : Gd (fun a => tcheck a = 0) (typP l i) := by
  unfold typP
  intro x j h
  cases hp : tWhole l (l.length + 1) i with
  | bad e a w => rw [hp] at h; cases h
  | ok a q =>
    rw [hp, bindP_ok] at h
    split at h
    · cases h; assumption
    · cases h
theorem mustP_gd (k : Int) (s : ByteArray) (i : Nat) : Gd (fun _ => True) (mustP l k s i) := fun _ _ _ => trivial
theorem nameP_gd (i : Nat) : Gd (fun x => nameF x = true) (nameP l i) := by
  unfold nameP
  split
  · rename_i w hw
    split
    · rename_i hk
      exact gd_ok ((hl w (List.mem_of_getElem? hw)).1 hk)
    · exact gd_wbad
  · exact gd_wbad
theorem numP_gd (p : Int) (i : Nat) : Gd Good (numP l p i) := by
  unfold numP
  split
  · rename_i w hw
    split
    · rename_i hk
      have h := (hl w (List.mem_of_getElem? hw)).2 hk
      refine gd_ok ?_
      rw [wrap64 (by omega) (by omega)]
      exact good_tn rfl (by decide) (fun h => absurd h (by decide)) (fun h => absurd h (by decide)) (fun h => absurd h (by decide)) (fun h => absurd h (by decide)) (fun h => absurd h (by decide)) (fun _ => by omega) ⟨by omega, by omega⟩ (fun t ht => by simp at ht)
    · exact gd_wbad
  · exact gd_wbad
theorem must4_gd (s : ByteArray) (i : Nat) : Gd (fun _ => True) (mustP l 4 s i) := mustP_gd hl 4 s i
theorem must3_gd (s : ByteArray) (i : Nat) : Gd (fun _ => True) (mustP l 3 s i) := mustP_gd hl 3 s i
theorem annP_gd (i : Nat) : Gd (fun x : ByteArray × Ty => nameF x.1 = true ∧ tcheck x.2 = 0) (annP l i) := by
  unfold annP
  repeat' first | with_reducible exact gd_bad | with_reducible exact gd_wbad | (with_reducible refine gd_ok ?_) | (with_reducible refine gd_bind (must4_gd hl _ _) (fun x j hx => ?_)) | (with_reducible refine gd_bind (must3_gd hl _ _) (fun x j hx => ?_)) | (with_reducible refine gd_bind (nameP_gd hl _) (fun x j hx => ?_)) | (with_reducible refine gd_bind (typP_gd hl _) (fun x j hx => ?_)) | (with_reducible refine gd_bind (numP_gd hl _ _) (fun x j hx => ?_)) | with_reducible exact must4_gd hl _ _ | with_reducible exact must3_gd hl _ _ | with_reducible exact nameP_gd hl _ | with_reducible exact typP_gd hl _ | with_reducible exact numP_gd hl _ _ | (with_reducible refine gd_ite ?_ ?_) | exact ⟨by assumption, by assumption⟩
theorem isLoop_gd : ∀ (n : Nat) (t : Tm) (i : Nat), Good t → Gd Good (isLoop l n t i)
  | 0, t, i, ht => gd_ok ht
  | n + 1, t, i, ht => by
    unfold isLoop
    refine gd_ite (gd_bind (typP_gd hl _) fun a j ha => isLoop_gd n _ _ ?_) (gd_ok ht)
    (apply good_tn <;> first | rfl | decide | (intro h; exact absurd h (by decide)) | (intro _; simp_all; done) | (intro t ht; simp at ht; rcases ht with rfl | rfl | rfl <;> simp_all; done) | (intro t ht; simp at ht; rcases ht with rfl | rfl <;> simp_all; done) | (intro t ht; simp at ht; subst ht; simp_all; done) | (intro t ht; simp at ht; done))
theorem opP_gd {part : Nat → PR Tm} (hp : ∀ i, Gd Good (part i)) {t : Tm} (ht : Good t) {i : Nat} (ho : opF (textW l i) = true) : Gd Good (opP l part t i) := by
  unfold opP
  refine gd_bind (hp _) fun u j hu => gd_ok ?_
  (apply good_tn <;> first | rfl | decide | (intro h; exact absurd h (by decide)) | (intro _; simp_all; done) | (intro t ht; simp at ht; rcases ht with rfl | rfl | rfl <;> simp_all; done) | (intro t ht; simp at ht; rcases ht with rfl | rfl <;> simp_all; done) | (intro t ht; simp at ht; subst ht; simp_all; done) | (intro t ht; simp at ht; done))
theorem isOp_text {ops : List ByteArray} {i : Nat} (h : isOp l ops i = true) (hs : ∀ s ∈ ops, opF s = true) : opF (textW l i) = true := by
  simp only [isOp, List.any_eq_true] at h
  obtain ⟨s, hm, h⟩ := h
  unfold tkW at h
  unfold textW
  cases hg : l[i]? with
  | none => rw [hg] at h; cases h
  | some w =>
    rw [hg] at h
    simp only [Bool.and_eq_true, decide_eq_true_eq] at h
    simp only
    rw [h.2]; exact hs s hm
theorem opLoop_gd {part : Nat → PR Tm} (hp : ∀ i, Gd Good (part i)) {ops : List ByteArray} (hs : ∀ s ∈ ops, opF s = true) : ∀ (n : Nat) (t : Tm) (i : Nat), Good t → Gd Good (opLoop l part ops n t i)
  | 0, t, i, ht => gd_ok ht
  | n + 1, t, i, ht => by
    unfold opLoop
    split
    · rename_i h
      exact gd_bind (opP_gd hl hp ht (isOp_text hl h hs)) fun u j hu => opLoop_gd hp hs n u j hu
    · exact gd_ok ht
theorem pAtom_gd {W : Nat → PR Tm} (hW : ∀ i, Gd Good (W i)) (i : Nat) : Gd Good (pAtom l W i) := by
  unfold pAtom
  split
  · exact gd_wbad
  · rename_i w hw
    have hwk := hl w (List.mem_of_getElem? hw)
    by_cases h2 : w.kind = 2
    · rw [if_pos h2]
      have h := hwk.2 h2
      exact gd_ok (good_tn rfl (by decide) (fun h => absurd h (by decide)) (fun h => absurd h (by decide)) (fun h => absurd h (by decide)) (fun h => absurd h (by decide)) (fun h => absurd h (by decide)) (fun _ => by omega) ⟨by omega, by omega⟩ (fun t ht => by simp at ht))
    · rw [if_neg h2]
      by_cases h1 : w.kind = 1
      · rw [if_pos h1]
        have h := hwk.1 h1
        exact gd_ok (good_tn rfl (by decide) (fun _ => h) (fun h => absurd h (by decide)) (fun h => absurd h (by decide)) (fun h => absurd h (by decide)) (fun h => absurd h (by decide)) (fun h => absurd h (by decide)) (by decide) (fun t ht => by simp at ht))
      · rw [if_neg h1]
        clear hwk h1 h2
        repeat' first | with_reducible exact gd_bad | with_reducible exact gd_wbad | (with_reducible refine gd_ok ?_) | (with_reducible refine gd_bind (hW _) (fun x j hx => ?_)) | (with_reducible refine gd_bind (must4_gd hl _ _) (fun x j hx => ?_)) | (with_reducible refine gd_bind (must3_gd hl _ _) (fun x j hx => ?_)) | (with_reducible refine gd_bind (nameP_gd hl _) (fun x j hx => ?_)) | (with_reducible refine gd_bind (typP_gd hl _) (fun x j hx => ?_)) | (with_reducible refine gd_bind (numP_gd hl _ _) (fun x j hx => ?_)) | with_reducible exact hW _ | with_reducible exact must4_gd hl _ _ | with_reducible exact must3_gd hl _ _ | with_reducible exact nameP_gd hl _ | with_reducible exact typP_gd hl _ | with_reducible exact numP_gd hl _ _ | (with_reducible refine gd_ite ?_ ?_) | assumption | (apply good_tn <;> first | rfl | decide | (intro h; exact absurd h (by decide)) | (intro _; simp_all; done) | (intro t ht; simp at ht; rcases ht with rfl | rfl | rfl <;> simp_all; done) | (intro t ht; simp at ht; rcases ht with rfl | rfl <;> simp_all; done) | (intro t ht; simp at ht; subst ht; simp_all; done) | (intro t ht; simp at ht; done))
theorem appLoop_gd {W : Nat → PR Tm} (hW : ∀ i, Gd Good (W i)) : ∀ (n : Nat) (t : Tm) (i : Nat), Good t → Gd Good (appLoop l W n t i)
  | 0, t, i, ht => gd_ok ht
  | n + 1, t, i, ht => by
    unfold appLoop
    refine gd_ite (gd_bind (hW _) fun a j ha => gd_bind (must4_gd hl _ _) fun _ j _ => appLoop_gd hW n _ _ ?_) (gd_ok ht)
    (apply good_tn <;> first | rfl | decide | (intro h; exact absurd h (by decide)) | (intro _; simp_all; done) | (intro t ht; simp at ht; rcases ht with rfl | rfl | rfl <;> simp_all; done) | (intro t ht; simp at ht; rcases ht with rfl | rfl <;> simp_all; done) | (intro t ht; simp at ht; subst ht; simp_all; done) | (intro t ht; simp at ht; done))
theorem inP_gd {un : Nat → PR Tm} (hu : ∀ i, Gd Good (un i)) (k : Int) (hk : k = 12 ∨ k = 13) (p : Int) (i : Nat) : Gd Good (inP l un k p i) := by
  unfold inP
  rcases hk with rfl | rfl
  all_goals
    repeat' first | with_reducible exact gd_bad | with_reducible exact gd_wbad | (with_reducible refine gd_ok ?_) | (with_reducible refine gd_bind (hu _) (fun x j hx => ?_)) | (with_reducible refine gd_bind (must4_gd hl _ _) (fun x j hx => ?_)) | (with_reducible refine gd_bind (must3_gd hl _ _) (fun x j hx => ?_)) | (with_reducible refine gd_bind (nameP_gd hl _) (fun x j hx => ?_)) | (with_reducible refine gd_bind (typP_gd hl _) (fun x j hx => ?_)) | (with_reducible refine gd_bind (numP_gd hl _ _) (fun x j hx => ?_)) | with_reducible exact hu _ | with_reducible exact must4_gd hl _ _ | with_reducible exact must3_gd hl _ _ | with_reducible exact nameP_gd hl _ | with_reducible exact typP_gd hl _ | with_reducible exact numP_gd hl _ _ | (with_reducible refine gd_ite ?_ ?_) | (apply good_tn <;> first | rfl | decide | (intro h; exact absurd h (by decide)) | (intro _; simp_all; done) | (intro t ht; simp at ht; rcases ht with rfl | rfl | rfl <;> simp_all; done) | (intro t ht; simp at ht; rcases ht with rfl | rfl <;> simp_all; done) | (intro t ht; simp at ht; subst ht; simp_all; done) | (intro t ht; simp at ht; done))
theorem pUn_gd {W : Nat → PR Tm} (hW : ∀ i, Gd Good (W i)) : ∀ (m i : Nat), Gd Good (pUn l W m i)
  | 0, i => gd_wbad
  | m + 1, i => by
    have ih := pUn_gd hW m
    unfold pUn
    refine gd_ite (gd_bind (ih _) fun t j ht => gd_ok ?_) (gd_ite (gd_bind (ih _) fun t j ht => gd_ok ?_) (gd_ite (inP_gd hl ih 12 (.inl rfl) _ _) (gd_ite (inP_gd hl ih 13 (.inr rfl) _ _) (gd_ite (numP_gd hl _ _) (gd_bind (pAtom_gd hl hW _) fun t j ht => appLoop_gd hl hW _ t j ht)))))
    · (apply good_tn <;> first | rfl | decide | (intro h; exact absurd h (by decide)) | (intro _; simp_all; done) | (intro t ht; simp at ht; rcases ht with rfl | rfl | rfl <;> simp_all; done) | (intro t ht; simp at ht; rcases ht with rfl | rfl <;> simp_all; done) | (intro t ht; simp at ht; subst ht; simp_all; done) | (intro t ht; simp at ht; done))
    · (apply good_tn <;> first | rfl | decide | (intro h; exact absurd h (by decide)) | (intro _; simp_all; done) | (intro t ht; simp at ht; rcases ht with rfl | rfl | rfl <;> simp_all; done) | (intro t ht; simp at ht; rcases ht with rfl | rfl <;> simp_all; done) | (intro t ht; simp at ht; subst ht; simp_all; done) | (intro t ht; simp at ht; done))
theorem pIs_gd {W : Nat → PR Tm} (hW : ∀ i, Gd Good (W i)) (i : Nat) : Gd Good (pIs l W i) := by
  have hu : ∀ i, Gd Good (pU l W i) := fun i => pUn_gd hl hW _ i
  have hm : ∀ i, Gd Good (pMul l W i) := fun i => gd_bind (hu i) fun t j hj => opLoop_gd hl hu (by decide) _ t j hj
  have hs : ∀ i, Gd Good (pSum l W i) := fun i => gd_bind (hm i) fun t j hj => opLoop_gd hl hm (by decide) _ t j hj
  have hc : ∀ i, Gd Good (pCmp l W i) := fun i => gd_bind (hs i) fun t j hj => by
    split
    · rename_i h; exact opP_gd hl hs hj (isOp_text hl h (by decide))
    · exact gd_ok hj
  exact gd_bind (hc i) fun t j hj => isLoop_gd hl _ t j hj
theorem branchP_gd {W : Nat → PR Tm} (hW : ∀ i, Gd Good (W i)) (i : Nat) : Gd (fun x : ByteArray × Tm => nameF x.1 = true ∧ Good x.2) (branchP l W i) := by
  unfold branchP
  repeat' first | with_reducible exact gd_bad | with_reducible exact gd_wbad | (with_reducible refine gd_ok ?_) | (with_reducible refine gd_bind (hW _) (fun x j hx => ?_)) | (with_reducible refine gd_bind (must4_gd hl _ _) (fun x j hx => ?_)) | (with_reducible refine gd_bind (must3_gd hl _ _) (fun x j hx => ?_)) | (with_reducible refine gd_bind (nameP_gd hl _) (fun x j hx => ?_)) | (with_reducible refine gd_bind (typP_gd hl _) (fun x j hx => ?_)) | (with_reducible refine gd_bind (numP_gd hl _ _) (fun x j hx => ?_)) | with_reducible exact hW _ | with_reducible exact must4_gd hl _ _ | with_reducible exact must3_gd hl _ _ | with_reducible exact nameP_gd hl _ | with_reducible exact typP_gd hl _ | with_reducible exact numP_gd hl _ _ | (with_reducible refine gd_ite ?_ ?_) | exact ⟨by assumption, by assumption⟩
theorem pStep_gd {W : Nat → PR Tm} (hW : ∀ i, Gd Good (W i)) (i : Nat) : Gd Good (pStep l W i) := by
  unfold pStep lamP letP ifP recP caseP
  repeat' first | with_reducible exact gd_bad | with_reducible exact gd_wbad | (with_reducible refine gd_ok ?_) | (with_reducible refine gd_bind (hW _) (fun x j hx => ?_)) | (with_reducible refine gd_bind (annP_gd hl _) (fun x j hx => ?_)) | (with_reducible refine gd_bind (branchP_gd hl hW _) (fun x j hx => ?_)) | (with_reducible refine gd_bind (pIs_gd hl hW _) (fun x j hx => ?_)) | (with_reducible refine gd_bind (must4_gd hl _ _) (fun x j hx => ?_)) | (with_reducible refine gd_bind (must3_gd hl _ _) (fun x j hx => ?_)) | (with_reducible refine gd_bind (nameP_gd hl _) (fun x j hx => ?_)) | (with_reducible refine gd_bind (typP_gd hl _) (fun x j hx => ?_)) | (with_reducible refine gd_bind (numP_gd hl _ _) (fun x j hx => ?_)) | with_reducible exact hW _ | with_reducible exact annP_gd hl _ | with_reducible exact branchP_gd hl hW _ | with_reducible exact pIs_gd hl hW _ | with_reducible exact must4_gd hl _ _ | with_reducible exact must3_gd hl _ _ | with_reducible exact nameP_gd hl _ | with_reducible exact typP_gd hl _ | with_reducible exact numP_gd hl _ _ | (with_reducible refine gd_ite ?_ ?_) | (apply good_tn <;> first | rfl | decide | (intro h; exact absurd h (by decide)) | (intro _; simp_all; done) | (intro t ht; simp at ht; rcases ht with rfl | rfl | rfl <;> simp_all; done) | (intro t ht; simp at ht; rcases ht with rfl | rfl <;> simp_all; done) | (intro t ht; simp at ht; subst ht; simp_all; done) | (intro t ht; simp at ht; done))
theorem pTerm_gd : ∀ (n i : Nat), Gd Good (pTerm l n i)
  | 0, i => gd_wbad
  | n + 1, i => pStep_gd hl (pTerm_gd n) i
end
end Go.Proofs.YtmaokphbfjpodaaDoor.E

/- What is read of a text is a term, in plain Lean. No conditions. -/
set_option linter.unusedVariables false
set_option linter.unusedSimpArgs false
namespace Go.Proofs.YtmaokphbfjpodaaDoor.E
open Go

theorem numL_le : ∀ (l : List UInt8) (n v : Nat), n ≤ 9223372036854775807 → numL n l = some v → v ≤ 9223372036854775807
  | [], n, v, hn, h => by simp [numL] at h; omega
  | c :: l, n, v, hn, h => by
    rw [numL] at h
    split at h
    · cases h
    · rename_i hc
      have := c.toNat_lt
      exact numL_le l _ v (by omega) h
theorem bytesF_of {w : ByteArray} : ∀ n, n ≤ w.size → (∀ d ∈ w.data.toList.take n, nbF (d.toNat : Nat) = true) → bytesF w n = true
  | 0, _, _ => rfl
  | n + 1, hn, h => by
    have hlt : n < w.data.toList.length := hn
    rw [List.take_succ_eq_append_getElem hlt] at h
    simp only [bytesF, Bool.and_eq_true]
    refine ⟨bytesF_of n (by omega) fun d hd => h d (List.mem_append.2 (.inl hd)), ?_⟩
    have := h _ (List.mem_append.2 (.inr (List.mem_singleton.2 rfl)))
    unfold byteAt
    rw [show ((n : Nat) : Int).toNat = n from rfl, List.getElem?_eq_getElem hlt]
    exact this
theorem letter_not_digit {c : Int} (h : letterF c = true) : digitF c = false := by
  simp only [letterF, Bool.or_eq_true, Bool.and_eq_true, decide_eq_true_eq] at h
  simp only [digitF, Bool.and_eq_false_iff, decide_eq_false_iff_not]
  omega
theorem wordL_wok {p : Nat} {l : List UInt8} {w : Wd} (h : wordL p l = .ok w) : (w.kind = 1 → nameF w.text = true) ∧ (w.kind = 2 → 0 ≤ w.num ∧ w.num ≤ 9223372036854775807) := by
  have hsz := wordL_ok h
  cases l with
  | nil => cases h
  | cons c l =>
    by_cases h1 : letterF c.toNat = true
    · rw [wordL_letter h1] at h
      have hpos : 1 ≤ spanL true (c :: l) := by rw [spanL, if_pos (by rw [h1]; simp)]; omega
      have hall := spanL_all true (c :: l)
      generalize hn : spanL true (c :: l) = n at h hpos hall
      obtain ⟨n, rfl⟩ : ∃ q, n = q + 1 := ⟨n - 1, by omega⟩
      split at h
      · cases h
      · rename_i h64
        split at h
        · cases h; exact ⟨fun q => by simp at q, fun q => by simp at q⟩
        · rename_i hk
          cases h
          refine ⟨fun _ => ?_, fun q => by simp at q⟩
          have e : (⟨((c :: l).take (n + 1)).toArray⟩ : ByteArray).data.toList = c :: l.take n := rfl
          simp only [nameF, Bool.and_eq_true, Bool.not_eq_true', decide_eq_true_eq, decide_eq_false_iff_not]
          refine ⟨⟨⟨⟨fun q => ?_, ?_⟩, by simpa using hk⟩, ?_⟩, ?_⟩
          · have := congrArg (fun b : ByteArray => b.data.toList) q
            rw [e] at this; cases this
          · have : (⟨((c :: l).take (n + 1)).toArray⟩ : ByteArray).size = ((c :: l).take (n + 1)).toArray.size := rfl
            rw [this]; omega
          · rw [byteAt_list e]; exact letter_not_digit h1
          · refine bytesF_of _ (Nat.le_refl _) fun d hd => ?_
            have := hall d (List.mem_of_mem_take hd)
            unfold nbF; rw [Bool.or_comm]; simpa using this
    · have h1 : letterF c.toNat = false := by simpa using h1
      by_cases h2 : digitF c.toNat = true
      · rw [wordL_digit h1 h2] at h
        split at h
        · cases h
        · rename_i v hv
          have e := ite_ok h
          subst e
          refine ⟨fun q => by simp at q, fun _ => ?_⟩
          have := numL_le _ 0 v (by decide) hv
          simp only
          omega
      · have h2 : digitF c.toNat = false := by simpa using h2
        unfold wordL at h
        simp only at h
        rw [if_neg (by rw [h1]; decide), if_neg (by rw [h2]; decide)] at h
        split at h
        · split at h <;> (cases h; exact ⟨fun q => by simp at q, fun q => by simp at q⟩)
        · split at h
          · cases h; exact ⟨fun q => by simp at q, fun q => by simp at q⟩
          · cases h
theorem scanL_wok : ∀ (n p : Nat) (s : List UInt8) (l : List Wd), scanL n p s = .ok l → WsOk l
  | 0, p, s, l, h => by cases h; intro w hw; simp at hw
  | n + 1, p, s, l, h => by
    rw [scanL_skip] at h
    generalize hq : s.drop (skipL false s) = r at h
    by_cases hn : r = []
    · subst hn; rw [scanL_nil] at h; cases h; intro w hw; simp at hw
    · rw [scanL_step n _ r (by rw [← hq]; exact skipL_again s false) hn] at h
      split at h
      · cases h
      · rename_i w hw
        split at h
        · cases h
        · rename_i l' hl
          cases h
          have ih := scanL_wok n _ _ _ hl
          intro x hx
          rcases List.mem_cons.1 hx with rfl | hx
          · exact wordL_wok hw
          · exact ih x hx
theorem scanF_wok {s : ByteArray} {l : List Wd} (h : scanF s = .ok l) : WsOk l := by
  obtain ⟨_, ws, rfl, _, h2⟩ := scanF_ok h
  have := scanL_wok _ _ _ _ h2
  intro w hw
  rcases List.mem_append.1 hw with hw | hw
  · exact this w hw
  · rw [List.mem_singleton] at hw
    subst hw
    exact ⟨fun q => absurd q (show ¬ (0 : Int) = 1 by decide), fun q => absurd q (show ¬ (0 : Int) = 2 by decide)⟩
/-- What is read is a term. -/
theorem read_good {s : ByteArray} {t : Tm} (h : readF s = .ok t) : tmcheck t = 0 ∧ tmInR t ∧ tmBad t = false := by
  unfold readF at h
  split at h
  · cases h
  · rename_i l hl
    split at h
    · cases h
    · rename_i t' j hw
      have ht : t' = t := by
        split at h
        · rename_i w hwj
          by_cases hk : w.kind = 0
          · rw [if_pos hk] at h; cases h; rfl
          · rw [if_neg hk] at h; cases h
        · cases h
      subst ht
      unfold wordsP at hw
      cases hp : pTerm l (l.length + 1) 0 with
      | bad e a w => rw [hp] at hw; cases hw
      | ok u q =>
        rw [hp, bindP_ok] at hw
        have hg := pTerm_gd (scanF_wok hl) (l.length + 1) 0 u q hp
        split at hw
        · cases hw
        · rename_i h1
          split at hw
          · cases hw
          · rename_i h2
            cases hw
            exact ⟨by rw [tmcheck_eq, if_neg h1, if_neg h2, if_pos hg.1], hg.2.1, hg.2.2⟩
end Go.Proofs.YtmaokphbfjpodaaDoor.E
