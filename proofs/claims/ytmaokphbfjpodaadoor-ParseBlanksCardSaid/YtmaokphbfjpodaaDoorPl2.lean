/- Words at other places are read as the same, but for places; in plain Lean. No conditions. -/
import Derived.Test.YtmaokphbfjpodaaDoorGenX5
set_option linter.unusedVariables false
set_option linter.unusedSimpArgs false
set_option linter.unusedSectionVars false
namespace Go.Proofs.YtmaokphbfjpodaaDoor.E
open Go

def Rl {α : Type} (R : α → α → Prop) : PR α → PR α → Prop
  | .ok x j, .ok x' j' => j = j' ∧ R x x'
  | .bad _ _ _, .bad _ _ _ => True
  | _, _ => False
def SameW (l l' : List Wd) : Prop := l.map Wd.tk = l'.map Wd.tk
theorem SameW.len {l l' : List Wd} (h : SameW l l') : l.length = l'.length := by have := congrArg List.length h; simpa using this
theorem SameW.get {l l' : List Wd} (h : SameW l l') (i : Nat) : (l[i]?).map Wd.tk = (l'[i]?).map Wd.tk := by
  have := congrArg (fun x => x[i]?) h
  simpa only [List.getElem?_map] using this
theorem SameW.tk {l l' : List Wd} (h : SameW l l') (i : Nat) (k : Int) (s : ByteArray) : tkW l i k s = tkW l' i k s := by
  have := h.get i
  unfold tkW
  cases h1 : l[i]? with
  | none => cases h2 : l'[i]? with
    | none => rfl
    | some w' => rw [h1, h2] at this; cases this
  | some w => cases h2 : l'[i]? with
    | none => rw [h1, h2] at this; cases this
    | some w' =>
      rw [h1, h2] at this
      have e : w.tk = w'.tk := by simpa using this
      have e1 : w.kind = w'.kind := congrArg Tk.kind e
      have e2 : w.text = w'.text := congrArg Tk.text e
      simp only [e1, e2]
theorem rl_bad {α : Type} {R : α → α → Prop} {e a : Int} {w : ByteArray} {e' a' : Int} {w' : ByteArray} : Rl R (.bad e a w) (.bad e' a' w') := trivial
theorem rl_wbad {α : Type} {R : α → α → Prop} {l l' : List Wd} {i i' : Nat} : Rl R (wbad l i) (wbad l' i') := trivial
theorem rl_ok {α : Type} {R : α → α → Prop} {x x' : α} {j : Nat} (h : R x x') : Rl R (.ok x j) (.ok x' j) := ⟨rfl, h⟩
theorem rl_bind {α β : Type} {P : α → α → Prop} {Q : β → β → Prop} {p p' : PR α} {f f' : α → Nat → PR β} (h : Rl P p p') (hf : ∀ x x' j, P x x' → Rl Q (f x j) (f' x' j)) : Rl Q (bindP p f) (bindP p' f') := by
  cases p <;> cases p'
  · obtain ⟨rfl, h⟩ := h; exact hf _ _ _ h
  · exact h.elim
  · exact h.elim
  · exact trivial
theorem rl_tk {α : Type} {R : α → α → Prop} {l l' : List Wd} (h : SameW l l') {i : Nat} {k : Int} {s : ByteArray} {a a' b b' : PR α} (ha : Rl R a a') (hb : Rl R b b') : Rl R (if tkW l i k s = true then a else b) (if tkW l' i k s = true then a' else b') := by
  rw [← h.tk]
  split
  · exact ha
  · exact hb
theorem SameW.op {l l' : List Wd} (h : SameW l l') (ops : List ByteArray) (i : Nat) : isOp l ops i = isOp l' ops i := by
  unfold isOp
  simp only [h.tk]
theorem SameW.text {l l' : List Wd} (h : SameW l l') (i : Nat) : textW l i = textW l' i := by
  have := h.get i
  unfold textW
  cases h1 : l[i]? with
  | none => cases h2 : l'[i]? with
    | none => rfl
    | some w' => rw [h1, h2] at this; cases this
  | some w => cases h2 : l'[i]? with
    | none => rw [h1, h2] at this; cases this
    | some w' =>
      rw [h1, h2] at this
      have e : w.tk = w'.tk := by simpa using this
      exact congrArg Tk.text e
def SameC (t t' : Tm) : Prop := cl t = cl t'
theorem cl_tn {k : Int} {name arg : ByteArray} {num : Int} {a b : Ty} {p p' : Int} {ks ks' : List Tm} (h : clL ks = clL ks') : SameC (tn k name arg num a b p ks) (tn k name arg num a b p' ks') := by
  obtain ⟨tk, tks⟩ := a
  obtain ⟨uk, uks⟩ := b
  simp only [SameC, tn, cl, h]
theorem clL0 : clL [] = clL [] := rfl
theorem clL1 {a a' : Tm} (h : SameC a a') : clL [a] = clL [a'] := by simp only [clL]; rw [show cl a = cl a' from h]
theorem clL2 {a a' b b' : Tm} (h : SameC a a') (g : SameC b b') : clL [a, b] = clL [a', b'] := by simp only [clL]; rw [show cl a = cl a' from h, show cl b = cl b' from g]
theorem clL3 {a a' b b' c c' : Tm} (h : SameC a a') (g : SameC b b') (k : SameC c c') : clL [a, b, c] = clL [a', b', c'] := by simp only [clL]; rw [show cl a = cl a' from h, show cl b = cl b' from g, show cl c = cl c' from k]
section
variable {l l' : List Wd} (h : SameW l l')
include h
theorem tLoop_rl {part part' : Nat → PR Ty} (hp : ∀ i, Rl Eq (part i) (part' i)) (k : Int) (s : ByteArray) : ∀ (n : Nat) (a : Ty) (i : Nat), Rl Eq (tLoop l part k s n a i) (tLoop l' part' k s n a i)
  | 0, a, i => rl_ok rfl
  | n + 1, a, i => by
    unfold tLoop
    refine rl_tk h (rl_bind (hp _) fun x x' j hx => ?_) (rl_ok rfl)
    subst hx
    exact tLoop_rl hp k s n _ _
theorem tAtom_rl {W W' : Nat → PR Ty} (hW : ∀ i, Rl Eq (W i) (W' i)) (i : Nat) : Rl Eq (tAtom l W i) (tAtom l' W' i) := by
  unfold tAtom
  refine rl_tk h (rl_ok rfl) (rl_tk h (rl_ok rfl) (rl_tk h (rl_ok rfl) (rl_tk h (rl_bind (hW _) fun x x' j hx => ?_) rl_wbad)))
  exact rl_tk h (rl_ok hx) rl_wbad
theorem tLeft_rl {part part' : Nat → PR Ty} (hp : ∀ i, Rl Eq (part i) (part' i)) (k : Int) (s : ByteArray) (i : Nat) : Rl Eq (tLeft l part k s i) (tLeft l' part' k s i) := by
  unfold tLeft
  rw [h.len]
  refine rl_bind (hp i) fun x x' j hx => ?_
  subst hx
  exact tLoop_rl h hp k s _ _ _
theorem tWhole_rl : ∀ (n i : Nat), Rl Eq (tWhole l n i) (tWhole l' n i)
  | 0, i => rl_wbad
  | n + 1, i => by
    have ih := tWhole_rl n
    unfold tWhole
    refine rl_bind (tLeft_rl h (fun i => tLeft_rl h (fun i => tAtom_rl h ih i) _ _ i) _ _ i) fun x x' j hx => ?_
    subst hx
    refine rl_tk h (rl_bind (ih _) fun y y' j hy => ?_) (rl_ok rfl)
    subst hy
    exact rl_ok rfl
theorem typP_rl (i : Nat) : Rl Eq (typP l i) (typP l' i) := by
  unfold typP
  rw [h.len]
  refine rl_bind (tWhole_rl h _ i) fun x x' j hx => ?_
  subst hx
  by_cases hc : tcheck x = 0
  · rw [if_pos hc, if_pos hc]; exact rl_ok rfl
  · rw [if_neg hc, if_neg hc]; exact rl_bad
theorem mustP_rl (k : Int) (s : ByteArray) (i : Nat) : Rl Eq (mustP l k s i) (mustP l' k s i) := by
  unfold mustP
  exact rl_tk h (rl_ok rfl) rl_wbad
theorem must4_rl (s : ByteArray) (i : Nat) : Rl Eq (mustP l 4 s i) (mustP l' 4 s i) := mustP_rl h 4 s i
theorem must3_rl (s : ByteArray) (i : Nat) : Rl Eq (mustP l 3 s i) (mustP l' 3 s i) := mustP_rl h 3 s i
theorem word_rl {α : Type} {R : α → α → Prop} (i : Nat) {f f' : Wd → PR α} {g g' : PR α} (hf : ∀ w w' : Wd, w.kind = w'.kind → w.text = w'.text → w.num = w'.num → Rl R (f w) (f' w')) (hg : Rl R g g') : Rl R (match l[i]? with | some w => f w | none => g) (match l'[i]? with | some w => f' w | none => g') := by
  have := h.get i
  cases h1 : l[i]? with
  | none => cases h2 : l'[i]? with
    | none => exact hg
    | some w' => rw [h1, h2] at this; cases this
  | some w => cases h2 : l'[i]? with
    | none => rw [h1, h2] at this; cases this
    | some w' =>
      rw [h1, h2] at this
      have e : w.tk = w'.tk := by simpa using this
      exact hf w w' (congrArg Tk.kind e) (congrArg Tk.text e) (congrArg Tk.num e)
theorem nameP_rl (i : Nat) : Rl Eq (nameP l i) (nameP l' i) := by
  unfold nameP
  refine word_rl h i (fun w w' e1 e2 e3 => ?_) rl_wbad
  rw [e1, e2]
  by_cases hk : w'.kind = 1
  · rw [if_pos hk, if_pos hk]; exact rl_ok rfl
  · rw [if_neg hk, if_neg hk]; exact rl_wbad
theorem numP_rl (p p' : Int) (i : Nat) : Rl SameC (numP l p i) (numP l' p' i) := by
  unfold numP
  refine word_rl h i (fun w w' e1 e2 e3 => ?_) rl_wbad
  rw [e1, e3]
  by_cases hk : w'.kind = 2
  · rw [if_pos hk, if_pos hk]; exact rl_ok (cl_tn clL0)
  · rw [if_neg hk, if_neg hk]; exact rl_wbad
theorem annP_rl (i : Nat) : Rl Eq (annP l i) (annP l' i) := by
  unfold annP
  refine rl_bind (nameP_rl h i) fun x x' j hx => rl_bind (must4_rl h _ _) fun _ _ j _ => rl_bind (typP_rl h _) fun a a' j ha => ?_
  subst hx; subst ha
  exact rl_ok rfl
theorem isLoop_rl : ∀ (n : Nat) (t t' : Tm) (i : Nat), SameC t t' → Rl SameC (isLoop l n t i) (isLoop l' n t' i)
  | 0, t, t', i, ht => rl_ok ht
  | n + 1, t, t', i, ht => by
    unfold isLoop
    refine rl_tk h (rl_bind (typP_rl h _) fun a a' j ha => ?_) (rl_ok ht)
    subst ha
    exact isLoop_rl n _ _ _ (cl_tn (clL1 ht))
theorem opP_rl {part part' : Nat → PR Tm} (hp : ∀ i, Rl SameC (part i) (part' i)) {t t' : Tm} (ht : SameC t t') (i : Nat) : Rl SameC (opP l part t i) (opP l' part' t' i) := by
  unfold opP
  rw [h.text]
  exact rl_bind (hp _) fun u u' j hu => rl_ok (cl_tn (clL2 ht hu))
theorem opLoop_rl {part part' : Nat → PR Tm} (hp : ∀ i, Rl SameC (part i) (part' i)) (ops : List ByteArray) : ∀ (n : Nat) (t t' : Tm) (i : Nat), SameC t t' → Rl SameC (opLoop l part ops n t i) (opLoop l' part' ops n t' i)
  | 0, t, t', i, ht => rl_ok ht
  | n + 1, t, t', i, ht => by
    unfold opLoop
    rw [h.op]
    split
    · exact rl_bind (opP_rl h hp ht _) fun u u' j hu => opLoop_rl hp ops n _ _ _ hu
    · exact rl_ok ht
theorem pAtom_rl {W W' : Nat → PR Tm} (hW : ∀ i, Rl SameC (W i) (W' i)) (i : Nat) : Rl SameC (pAtom l W i) (pAtom l' W' i) := by
  unfold pAtom
  have := h.get i
  cases h1 : l[i]? with
  | none => cases h2 : l'[i]? with
    | none => exact rl_wbad
    | some w' => rw [h1, h2] at this; cases this
  | some w => cases h2 : l'[i]? with
    | none => rw [h1, h2] at this; cases this
    | some w' =>
      rw [h1, h2] at this
      have e : w.tk = w'.tk := by simpa using this
      have e1 : w.kind = w'.kind := congrArg Tk.kind e
      have e2 : w.text = w'.text := congrArg Tk.text e
      have e3 : w.num = w'.num := congrArg Tk.num e
      simp only
      rw [e1, e2, e3]
      by_cases q2 : w'.kind = 2
      · rw [if_pos q2, if_pos q2]; exact rl_ok (cl_tn clL0)
      · rw [if_neg q2, if_neg q2]
        by_cases q1 : w'.kind = 1
        · rw [if_pos q1, if_pos q1]; exact rl_ok (cl_tn clL0)
        · rw [if_neg q1, if_neg q1]
          refine rl_tk h (rl_ok (cl_tn clL0)) (rl_tk h (rl_ok (cl_tn clL0)) (rl_tk h ?_ (rl_tk h ?_ rl_wbad)))
          · exact rl_bind (hW _) fun t t' j ht => rl_bind (must4_rl h _ _) fun _ _ j _ => rl_ok ht
          · exact rl_bind (hW _) fun t t' j ht => rl_bind (must4_rl h _ _) fun _ _ j _ => rl_bind (hW _) fun u u' j hu => rl_bind (must4_rl h _ _) fun _ _ j _ => rl_ok (cl_tn (clL2 ht hu))
theorem appLoop_rl {W W' : Nat → PR Tm} (hW : ∀ i, Rl SameC (W i) (W' i)) : ∀ (n : Nat) (t t' : Tm) (i : Nat), SameC t t' → Rl SameC (appLoop l W n t i) (appLoop l' W' n t' i)
  | 0, t, t', i, ht => rl_ok ht
  | n + 1, t, t', i, ht => by
    unfold appLoop
    exact rl_tk h (rl_bind (hW _) fun a a' j ha => rl_bind (must4_rl h _ _) fun _ _ j _ => appLoop_rl hW n _ _ _ (cl_tn (clL2 ht ha))) (rl_ok ht)
theorem inP_rl {un un' : Nat → PR Tm} (hu : ∀ i, Rl SameC (un i) (un' i)) (k p p' : Int) (i : Nat) : Rl SameC (inP l un k p i) (inP l' un' k p' i) := by
  unfold inP
  refine rl_bind (must4_rl h _ _) fun _ _ j _ => rl_bind (typP_rl h _) fun a a' j ha => rl_bind (must4_rl h _ _) fun _ _ j _ => rl_bind (hu _) fun t t' j ht => ?_
  subst ha
  exact rl_ok (cl_tn (clL1 ht))
theorem pUn_rl {W W' : Nat → PR Tm} (hW : ∀ i, Rl SameC (W i) (W' i)) : ∀ (m i : Nat), Rl SameC (pUn l W m i) (pUn l' W' m i)
  | 0, i => rl_wbad
  | m + 1, i => by
    have ih := pUn_rl hW m
    unfold pUn
    rw [h.len]
    exact rl_tk h (rl_bind (ih _) fun t t' j ht => rl_ok (cl_tn (clL1 ht))) (rl_tk h (rl_bind (ih _) fun t t' j ht => rl_ok (cl_tn (clL1 ht))) (rl_tk h (inP_rl h ih 12 _ _ _) (rl_tk h (inP_rl h ih 13 _ _ _) (rl_tk h (numP_rl h _ _ _) (rl_bind (pAtom_rl h hW _) fun t t' j ht => appLoop_rl h hW _ _ _ _ ht)))))
theorem pIs_rl {W W' : Nat → PR Tm} (hW : ∀ i, Rl SameC (W i) (W' i)) (i : Nat) : Rl SameC (pIs l W i) (pIs l' W' i) := by
  have hu : ∀ i, Rl SameC (pU l W i) (pU l' W' i) := fun i => by unfold pU; rw [h.len]; exact pUn_rl h hW _ i
  have hm : ∀ i, Rl SameC (pMul l W i) (pMul l' W' i) := fun i => by unfold pMul; rw [h.len]; exact rl_bind (hu i) fun t t' j ht => opLoop_rl h hu _ _ _ _ _ ht
  have hs : ∀ i, Rl SameC (pSum l W i) (pSum l' W' i) := fun i => by unfold pSum; rw [h.len]; exact rl_bind (hm i) fun t t' j ht => opLoop_rl h hm _ _ _ _ _ ht
  have hc : ∀ i, Rl SameC (pCmp l W i) (pCmp l' W' i) := fun i => by
    unfold pCmp
    refine rl_bind (hs i) fun t t' j ht => ?_
    rw [h.op]
    split
    · exact opP_rl h hs ht _
    · exact rl_ok ht
  unfold pIs
  rw [h.len]
  exact rl_bind (hc i) fun t t' j ht => isLoop_rl h _ _ _ _ ht
def RB (x x' : ByteArray × Tm) : Prop := x.1 = x'.1 ∧ SameC x.2 x'.2
theorem branchP_rl {W W' : Nat → PR Tm} (hW : ∀ i, Rl SameC (W i) (W' i)) (i : Nat) : Rl RB (branchP l W i) (branchP l' W' i) := by
  unfold branchP
  exact rl_bind (nameP_rl h i) fun x x' j hx => rl_bind (must4_rl h _ _) fun _ _ j _ => rl_bind (hW _) fun t t' j ht => rl_ok ⟨hx, ht⟩
theorem pStep_rl {W W' : Nat → PR Tm} (hW : ∀ i, Rl SameC (W i) (W' i)) (i : Nat) : Rl SameC (pStep l W i) (pStep l' W' i) := by
  unfold pStep
  refine rl_tk h ?_ (rl_tk h ?_ (rl_tk h ?_ (rl_tk h ?_ (rl_tk h ?_ (pIs_rl h hW i)))))
  · unfold lamP
    refine rl_bind (annP_rl h _) fun x x' j hx => rl_bind (must4_rl h _ _) fun _ _ j _ => rl_bind (hW _) fun t t' j ht => ?_
    subst hx
    exact rl_ok (cl_tn (clL1 ht))
  · unfold letP
    refine rl_bind (annP_rl h _) fun x x' j hx => rl_bind (must4_rl h _ _) fun _ _ j _ => rl_bind (hW _) fun t t' j ht => rl_bind (must3_rl h _ _) fun _ _ j _ => rl_bind (hW _) fun u u' j hu => ?_
    subst hx
    exact rl_ok (cl_tn (clL2 ht hu))
  · unfold ifP
    exact rl_bind (hW _) fun a a' j ha => rl_bind (must3_rl h _ _) fun _ _ j _ => rl_bind (hW _) fun b b' j hb => rl_bind (must3_rl h _ _) fun _ _ j _ => rl_bind (hW _) fun c c' j hc => rl_ok (cl_tn (clL3 ha hb hc))
  · unfold recP
    refine rl_bind (nameP_rl h _) fun f f' j hf => rl_bind (must4_rl h _ _) fun _ _ j _ => rl_bind (annP_rl h _) fun x x' j hx => rl_bind (must4_rl h _ _) fun _ _ j _ => rl_bind (must4_rl h _ _) fun _ _ j _ => rl_bind (typP_rl h _) fun b b' j hb => rl_bind (must4_rl h _ _) fun _ _ j _ => rl_bind (hW _) fun t t' j ht => ?_
    subst hf; subst hx; subst hb
    exact rl_ok (cl_tn (clL1 ht))
  · unfold caseP
    refine rl_bind (hW _) fun a a' j ha => rl_bind (must3_rl h _ _) fun _ _ j _ => rl_bind (branchP_rl h hW _) fun x x' j hx => rl_bind (must4_rl h _ _) fun _ _ j _ => rl_bind (branchP_rl h hW _) fun y y' j hy => ?_
    obtain ⟨x1, x2⟩ := x
    obtain ⟨y1, y2⟩ := y
    obtain ⟨z1, z2⟩ := x'
    obtain ⟨v1, v2⟩ := y'
    obtain ⟨e1, e2⟩ := hx
    obtain ⟨e3, e4⟩ := hy
    simp only at e1 e2 e3 e4
    subst e1; subst e3
    exact rl_ok (cl_tn (clL3 ha e2 e4))
theorem pTerm_rl : ∀ (n i : Nat), Rl SameC (pTerm l n i) (pTerm l' n i)
  | 0, i => rl_wbad
  | n + 1, i => pStep_rl h (pTerm_rl n) i
theorem wordsP_rl : Rl SameC (wordsP l) (wordsP l') := by
  unfold wordsP
  rw [h.len]
  refine rl_bind (pTerm_rl h _ _) fun t t' j ht => ?_
  have e1 : tmN t = tmN t' := by rw [← tmN_cl t, show cl t = cl t' from ht, tmN_cl]
  have e2 : tmDepth t = tmDepth t' := by rw [← tmDepth_cl t, show cl t = cl t' from ht, tmDepth_cl]
  rw [e1, e2]
  by_cases q1 : tmN t' > 8192
  · rw [if_pos q1, if_pos q1]; exact rl_bad
  · rw [if_neg q1, if_neg q1]
    by_cases q2 : tmDepth t' > 200
    · rw [if_pos q2, if_pos q2]; exact rl_bad
    · rw [if_neg q2, if_neg q2]; exact rl_ok ht
end
/-- Two texts with the same words: both are read, as the same; or none is. -/
theorem read_rl {s s' : ByteArray} {l l' : List Wd} (h1 : scanF s = .ok l) (h2 : scanF s' = .ok l') (h : SameW l l') : (∃ t t', readF s = .ok t ∧ readF s' = .ok t' ∧ cl t = cl t') ∨ ((∃ e, readF s = .error e) ∧ ∃ e, readF s' = .error e) := by
  have hr := wordsP_rl h
  unfold readF
  rw [h1, h2]
  simp only
  cases hp : wordsP l with
  | bad e a w => cases hp' : wordsP l' with
    | bad e' a' w' => exact .inr ⟨⟨_, rfl⟩, _, rfl⟩
    | ok t' j' => rw [hp, hp'] at hr; exact hr.elim
  | ok t j => cases hp' : wordsP l' with
    | bad e' a' w' => rw [hp, hp'] at hr; exact hr.elim
    | ok t' j' =>
      rw [hp, hp'] at hr
      obtain ⟨rfl, hc⟩ := hr
      simp only
      have := h.get j
      cases g1 : l[j]? with
      | none => cases g2 : l'[j]? with
        | none => exact .inr ⟨⟨_, rfl⟩, _, rfl⟩
        | some w' => rw [g1, g2] at this; cases this
      | some w => cases g2 : l'[j]? with
        | none => rw [g1, g2] at this; cases this
        | some w' =>
          rw [g1, g2] at this
          have e : w.tk = w'.tk := by simpa using this
          have e1 : w.kind = w'.kind := congrArg Tk.kind e
          simp only
          rw [e1]
          by_cases q : w'.kind = 0
          · rw [if_pos q, if_pos q]; exact .inl ⟨t, t', rfl, rfl, hc⟩
          · rw [if_neg q, if_neg q]; exact .inr ⟨⟨_, rfl⟩, _, rfl⟩
end Go.Proofs.YtmaokphbfjpodaaDoor.E
