/- Texts, merged: Pl3, Pl4. No conditions. -/
import Derived.Test.YtmaokphbfjpodaaDoorGenX5
import Derived.Test.YtmaokphbfjpodaaDoorPl2
/- A list of words that is cut is taken, or refused at its end, or where the whole one is; in plain Lean. No conditions. -/
set_option linter.unusedVariables false
set_option linter.unusedSimpArgs false
set_option linter.unusedSectionVars false
namespace Go.Proofs.YtmaokphbfjpodaaDoor.E
open Go

/-- The words ahead of a place, and an end. -/
def cutW (l : List Wd) (K : Nat) (e : Int) : List Wd := l.take K ++ [⟨0, s0, 0, e⟩]
/-- At the cut: it ends there, or it is refused there, or for its size. -/
def EndC {α : Type} (K : Nat) (e : Int) (p : PR α) : Prop := p = .bad 40 e s0 ∨ (∃ c a w, p = .bad c a w ∧ c ≠ 40) ∨ ∃ x, p = .ok x K
/-- Ahead of the cut: as at the cut, or as the whole one. -/
def Ct {α : Type} (K : Nat) (e : Int) (b : Nat) (p' p : PR α) : Prop := EndC K e p' ∨ (p' = p ∧ ∀ x j, p' = .ok x j → b ≤ j ∧ j < K)
theorem ct_ok {α : Type} {K : Nat} {e : Int} {b : Nat} {x : α} {j : Nat} (h1 : j ≤ K) (h2 : b ≤ j) : Ct K e b (.ok x j) (.ok x j) := by
  by_cases h : j = K
  · subst h; exact .inl (.inr (.inr ⟨x, rfl⟩))
  · exact .inr ⟨rfl, fun y q hq => by cases hq; exact ⟨h2, by omega⟩⟩
theorem ct_bad {α : Type} {K : Nat} {e : Int} {b : Nat} {c a : Int} {w : ByteArray} : Ct K e b (.bad c a w : PR α) (.bad c a w) := .inr ⟨rfl, fun x j h => by cases h⟩
theorem Ct.le {α : Type} {K : Nat} {e : Int} {b c : Nat} {p' p : PR α} (h : Ct K e b p' p) (hc : c ≤ b) : Ct K e c p' p := by
  rcases h with h | ⟨h, g⟩
  · exact .inl h
  · exact .inr ⟨h, fun x j q => by have := g x j q; omega⟩
theorem ct_bind {α β : Type} {K : Nat} {e : Int} {b c : Nat} {p' p : PR α} {g' g : α → Nat → PR β} (h : Ct K e b p' p) (hg : ∀ x j, b ≤ j → j < K → Ct K e c (g' x j) (g x j)) (he : ∀ x, EndC K e (g' x K)) : Ct K e c (bindP p' g') (bindP p g) := by
  rcases h with (rfl | ⟨d, a, w, rfl, hd⟩ | ⟨x, rfl⟩) | ⟨rfl, q⟩
  · exact .inl (.inl rfl)
  · exact .inl (.inr (.inl ⟨d, a, w, rfl, hd⟩))
  · exact .inl (he x)
  · cases p' with
    | ok x j => have := q x j rfl; exact hg x j this.1 this.2
    | bad d a w => exact ct_bad
theorem ec_bind {α β : Type} {K : Nat} {e : Int} {p' : PR α} {g' : α → Nat → PR β} (h : EndC K e p') (he : ∀ x, EndC K e (g' x K)) : EndC K e (bindP p' g') := by
  rcases h with rfl | ⟨d, a, w, rfl, hd⟩ | ⟨x, rfl⟩
  · exact .inl rfl
  · exact .inr (.inl ⟨d, a, w, rfl, hd⟩)
  · exact he x
theorem ec_ok {α : Type} {K : Nat} {e : Int} {x : α} : EndC K e (.ok x K) := .inr (.inr ⟨x, rfl⟩)
section
variable {l : List Wd} {K : Nat} (hK : K < l.length) {e : Int}
include hK
theorem cut_len : (cutW l K e).length = K + 1 := by simp [cutW]; omega
theorem cut_get {i : Nat} (hi : i < K) : (cutW l K e)[i]? = l[i]? := by
  unfold cutW
  rw [List.getElem?_append_left (by simp; omega), List.getElem?_take_of_lt hi]
theorem cut_end : (cutW l K e)[K]? = some ⟨0, s0, 0, e⟩ := by
  unfold cutW
  rw [List.getElem?_append_right (by simp; omega)]
  have : K - (l.take K).length = 0 := by simp; omega
  rw [this]; rfl
theorem cut_tk {i : Nat} (hi : i < K) (k : Int) (s : ByteArray) : tkW (cutW l K e) i k s = tkW l i k s := by unfold tkW; rw [cut_get hK hi]
theorem cut_tkE {k : Int} (hk : k ≠ 0) (s : ByteArray) : tkW (cutW l K e) K k s = false := by
  unfold tkW; rw [cut_end hK]
  simp only [Bool.and_eq_false_iff, decide_eq_false_iff_not]
  exact .inl fun q => hk q.symm
theorem cut_place {i : Nat} (hi : i < K) : placeW (cutW l K e) i = placeW l i := by unfold placeW; rw [cut_get hK hi]
theorem cut_text {i : Nat} (hi : i < K) : textW (cutW l K e) i = textW l i := by unfold textW; rw [cut_get hK hi]
theorem cut_op {i : Nat} (hi : i < K) (ops : List ByteArray) : isOp (cutW l K e) ops i = isOp l ops i := by unfold isOp; simp only [cut_tk hK hi]
theorem cut_opE (ops : List ByteArray) : isOp (cutW l K e) ops K = false := by
  unfold isOp
  simp only [cut_tkE hK (show (4 : Int) ≠ 0 by decide)]
  induction ops with
  | nil => rfl
  | cons x r ih => rw [List.any_cons, ih]; rfl
theorem ct_wbad {α : Type} {b i : Nat} (hi : i < K) : Ct K e b (wbad (cutW l K e) i : PR α) (wbad l i) := by
  obtain ⟨w, hw⟩ : ∃ w, l[i]? = some w := ⟨_, List.getElem?_eq_getElem (by omega)⟩
  have : (wbad (cutW l K e) i : PR α) = wbad l i := by unfold wbad wrongA; rw [cut_get hK hi, hw]
  rw [this]
  exact ct_bad
theorem ec_wbad {α : Type} : EndC K e (wbad (cutW l K e) K : PR α) := by
  have : (wbad (cutW l K e) K : PR α) = .bad 40 e s0 := by unfold wbad wrongA; rw [cut_end hK]
  rw [this]; exact .inl rfl
theorem ct_tk {α : Type} {b i : Nat} (hi : i < K) {k : Int} {s : ByteArray} {a' a c' c : PR α} (ha : Ct K e b a' a) (hc : Ct K e b c' c) : Ct K e b (if tkW (cutW l K e) i k s = true then a' else c') (if tkW l i k s = true then a else c) := by
  rw [cut_tk hK hi]
  split
  · exact ha
  · exact hc
theorem ct_opI {α : Type} {b i : Nat} (hi : i < K) {ops : List ByteArray} {a' a c' c : PR α} (ha : Ct K e b a' a) (hc : Ct K e b c' c) : Ct K e b (if isOp (cutW l K e) ops i = true then a' else c') (if isOp l ops i = true then a else c) := by
  rw [cut_op hK hi]
  split
  · exact ha
  · exact hc
theorem ec_tk {α : Type} {k : Int} (hk : k ≠ 0) {s : ByteArray} {a' c' : PR α} (hc : EndC K e c') : EndC K e (if tkW (cutW l K e) K k s = true then a' else c') := by
  rw [cut_tkE hK hk, if_neg (by decide)]; exact hc
theorem ec_opI {α : Type} {ops : List ByteArray} {a' c' : PR α} (hc : EndC K e c') : EndC K e (if isOp (cutW l K e) ops K = true then a' else c') := by
  rw [cut_opE hK, if_neg (by decide)]; exact hc

/-! ### Types -/
theorem tLoop_ec {part' : Nat → PR Ty} (k : Int) (s : ByteArray) (m : Nat) (a : Ty) : EndC K e (tLoop (cutW l K e) part' k s m a K) := by
  cases m with
  | zero => exact ec_ok
  | succ m => unfold tLoop; exact ec_tk hK (by decide) ec_ok
theorem tLoop_ct {b : Nat} {part' part : Nat → PR Ty} (hp : ∀ i, b ≤ i → i < K → Ct K e (i + 1) (part' i) (part i)) (he : EndC K e (part' K)) (k : Int) (s : ByteArray) : ∀ (m' m : Nat) (a : Ty) (i : Nat), b ≤ i + 1 → i < K → K < m' + i → l.length < m + i → Ct K e i (tLoop (cutW l K e) part' k s m' a i) (tLoop l part k s m a i)
  | 0, m, a, i, hb, hi, h1, h2 => absurd h1 (by omega)
  | m' + 1, 0, a, i, hb, hi, h1, h2 => absurd h2 (by omega)
  | m' + 1, m + 1, a, i, hb, hi, h1, h2 => by
    unfold tLoop
    refine ct_tk hK hi (ct_bind (b := i + 2) ?_ (fun x j hj hjk => (tLoop_ct hp he k s m' m _ j (by omega) hjk (by omega) (by omega)).le (by omega)) (fun x => tLoop_ec hK k s _ _)) (ct_ok (by omega) (Nat.le_refl _))
    by_cases hq : i + 1 = K
    · rw [hq]; exact .inl he
    · exact hp (i + 1) hb (by omega)
theorem tAtom_ec {W' : Nat → PR Ty} : EndC K e (tAtom (cutW l K e) W' K) := by
  unfold tAtom
  exact ec_tk hK (by decide) (ec_tk hK (by decide) (ec_tk hK (by decide) (ec_tk hK (by decide) (ec_wbad hK))))
theorem tAtom_ct {b : Nat} {W' W : Nat → PR Ty} (hW : ∀ i, b ≤ i → i < K → Ct K e (i + 1) (W' i) (W i)) (he : EndC K e (W' K)) (i : Nat) (hb : b ≤ i + 1) (hi : i < K) : Ct K e (i + 1) (tAtom (cutW l K e) W' i) (tAtom l W i) := by
  unfold tAtom
  refine ct_tk hK hi (ct_ok (by omega) (Nat.le_refl _)) (ct_tk hK hi (ct_ok (by omega) (Nat.le_refl _)) (ct_tk hK hi (ct_ok (by omega) (Nat.le_refl _)) (ct_tk hK hi (ct_bind (b := i + 2) ?_ (fun x j hj hjk => ct_tk hK hjk (ct_ok (by omega) (by omega)) (ct_wbad hK hjk)) (fun x => ec_tk hK (by decide) (ec_wbad hK))) (ct_wbad hK hi))))
  by_cases hq : i + 1 = K
  · rw [hq]; exact .inl he
  · exact hW (i + 1) hb (by omega)
theorem tLeft_ec {part' : Nat → PR Ty} (he : EndC K e (part' K)) (k : Int) (s : ByteArray) : EndC K e (tLeft (cutW l K e) part' k s K) := by
  unfold tLeft
  exact ec_bind he fun x => tLoop_ec hK k s _ _
theorem tLeft_ct {b : Nat} {part' part : Nat → PR Ty} (hp : ∀ i, b ≤ i → i < K → Ct K e (i + 1) (part' i) (part i)) (he : EndC K e (part' K)) (k : Int) (s : ByteArray) (i : Nat) (hb : b ≤ i) (hi : i < K) : Ct K e (i + 1) (tLeft (cutW l K e) part' k s i) (tLeft l part k s i) := by
  unfold tLeft
  rw [cut_len hK]
  exact ct_bind (hp i hb hi) (fun x j hj hjk => (tLoop_ct hK hp he k s _ _ _ j (by omega) hjk (by omega) (by omega)).le hj) (fun x => tLoop_ec hK k s _ _)
theorem tWhole_ec : ∀ n', EndC K e (tWhole (cutW l K e) n' K)
  | 0 => ec_wbad hK
  | n' + 1 => by
    unfold tWhole
    exact ec_bind (tLeft_ec hK (tLeft_ec hK (tAtom_ec hK) _ _) _ _) fun x => ec_tk hK (by decide) ec_ok
theorem tWhole_ct : ∀ (n' n i : Nat), i < K → K < n' + i → l.length < n + i → Ct K e (i + 1) (tWhole (cutW l K e) n' i) (tWhole l n i)
  | 0, n, i, hi, h1, h2 => absurd h1 (by omega)
  | n' + 1, 0, i, hi, h1, h2 => absurd h2 (by omega)
  | n' + 1, n + 1, i, hi, h1, h2 => by
    have hW : ∀ q, i + 1 ≤ q → q < K → Ct K e (q + 1) (tWhole (cutW l K e) n' q) (tWhole l n q) := fun q hq hqk => tWhole_ct n' n q hqk (by omega) (by omega)
    have he := tWhole_ec hK (e := e) n'
    have ha : ∀ q, i ≤ q → q < K → Ct K e (q + 1) (tAtom (cutW l K e) (tWhole (cutW l K e) n') q) (tAtom l (tWhole l n) q) := fun q hq hqk => tAtom_ct hK hW he q (by omega) hqk
    have hp : ∀ q, i ≤ q → q < K → Ct K e (q + 1) (tProd (cutW l K e) (tWhole (cutW l K e) n') q) (tProd l (tWhole l n) q) := fun q hq hqk => tLeft_ct hK ha (tAtom_ec hK) _ _ q hq hqk
    unfold tWhole
    refine ct_bind (tLeft_ct hK hp (tLeft_ec hK (tAtom_ec hK) _ _) _ _ i (Nat.le_refl _) hi) (fun x j hj hjk => ct_tk hK hjk (ct_bind (b := j + 2) ?_ (fun y q hq hqk => ct_ok (by omega) (by omega)) (fun y => ec_ok)) (ct_ok (by omega) (by omega))) (fun x => ec_tk hK (by decide) ec_ok)
    by_cases hq : j + 1 = K
    · rw [hq]; exact .inl he
    · exact hW (j + 1) (by omega) (by omega)
theorem tcheck_not40 (t : Ty) : tcheck t ≠ 40 := by
  unfold tcheck
  repeat' split
  all_goals decide
theorem typP_ec : EndC K e (typP (cutW l K e) K) := by
  unfold typP
  refine ec_bind (tWhole_ec hK _) fun x => ?_
  split
  · exact ec_ok
  · exact .inr (.inl ⟨_, _, _, rfl, tcheck_not40 hK x⟩)
theorem typP_ct (i : Nat) (hi : i < K) : Ct K e (i + 1) (typP (cutW l K e) i) (typP l i) := by
  unfold typP
  rw [cut_len hK]
  refine ct_bind (tWhole_ct hK _ _ i hi (by omega) (by omega)) (fun x j hj hjk => ?_) (fun x => ?_)
  · split
    · exact ct_ok (by omega) hj
    · exact .inl (.inr (.inl ⟨_, _, _, rfl, tcheck_not40 hK x⟩))
  · split
    · exact ec_ok
    · exact .inr (.inl ⟨_, _, _, rfl, tcheck_not40 hK x⟩)

/-! ### Terms -/
theorem mustP_ec (k : Int) (hk : k ≠ 0) (s : ByteArray) : EndC K e (mustP (cutW l K e) k s K) := by
  unfold mustP
  exact ec_tk hK hk (ec_wbad hK)
theorem mustP_ct (k : Int) (s : ByteArray) (i : Nat) (hi : i < K) : Ct K e (i + 1) (mustP (cutW l K e) k s i) (mustP l k s i) := by
  unfold mustP
  exact ct_tk hK hi (ct_ok (by omega) (Nat.le_refl _)) (ct_wbad hK hi)
theorem m4_ec (s : ByteArray) : EndC K e (mustP (cutW l K e) 4 s K) := mustP_ec hK 4 (by decide) s
theorem m3_ec (s : ByteArray) : EndC K e (mustP (cutW l K e) 3 s K) := mustP_ec hK 3 (by decide) s
theorem nameP_ec : EndC K e (nameP (cutW l K e) K) := by
  unfold nameP
  rw [cut_end hK]
  simp only
  rw [if_neg (by decide)]
  exact ec_wbad hK
theorem nameP_ct (i : Nat) (hi : i < K) : Ct K e (i + 1) (nameP (cutW l K e) i) (nameP l i) := by
  obtain ⟨w, hw⟩ : ∃ w, l[i]? = some w := ⟨_, List.getElem?_eq_getElem (by omega)⟩
  unfold nameP
  rw [cut_get hK hi, hw]
  simp only
  split
  · exact ct_ok (by omega) (Nat.le_refl _)
  · exact ct_wbad hK hi
theorem numP_ec (p : Int) : EndC K e (numP (cutW l K e) p K) := by
  unfold numP
  rw [cut_end hK]
  simp only
  rw [if_neg (by decide)]
  exact ec_wbad hK
theorem numP_ct (p : Int) (i : Nat) (hi : i < K) : Ct K e (i + 1) (numP (cutW l K e) p i) (numP l p i) := by
  obtain ⟨w, hw⟩ : ∃ w, l[i]? = some w := ⟨_, List.getElem?_eq_getElem (by omega)⟩
  unfold numP
  rw [cut_get hK hi, hw]
  simp only
  split
  · exact ct_ok (by omega) (Nat.le_refl _)
  · exact ct_wbad hK hi
/-- At the next word, or at the cut. -/
theorem ct_next {α : Type} {f' f : Nat → PR α} {b i : Nat} (hf : ∀ q, b ≤ q → q < K → Ct K e (q + 1) (f' q) (f q)) (he : EndC K e (f' K)) (hb : b ≤ i) (hi : i ≤ K) : Ct K e (i + 1) (f' i) (f i) := by
  by_cases hq : i = K
  · subst hq; exact .inl he
  · exact hf i hb (by omega)
theorem annP_ec : EndC K e (annP (cutW l K e) K) := by
  unfold annP
  exact ec_bind (nameP_ec hK) fun x => ec_bind (m4_ec hK _) fun _ => ec_bind (typP_ec hK) fun a => ec_ok
theorem annP_ct (i : Nat) (hi : i < K) : Ct K e (i + 1) (annP (cutW l K e) i) (annP l i) := by
  unfold annP
  refine ct_bind (nameP_ct hK i hi) (fun x j hj hjk => ct_bind (mustP_ct hK _ _ j hjk) (fun _ j2 hj2 hjk2 => ct_bind (typP_ct hK j2 hjk2) (fun a j3 hj3 hjk3 => ct_ok (by omega) (by omega)) fun a => ec_ok) fun _ => ec_bind (typP_ec hK) fun a => ec_ok) fun x => ec_bind (m4_ec hK _) fun _ => ec_bind (typP_ec hK) fun a => ec_ok
theorem isLoop_ec (m : Nat) (t : Tm) : EndC K e (isLoop (cutW l K e) m t K) := by
  cases m with
  | zero => exact ec_ok
  | succ m => unfold isLoop; exact ec_tk hK (by decide) ec_ok
theorem isLoop_ct : ∀ (m' m : Nat) (t : Tm) (i : Nat), i < K → K < m' + i → l.length < m + i → Ct K e i (isLoop (cutW l K e) m' t i) (isLoop l m t i)
  | 0, m, t, i, hi, h1, h2 => absurd h1 (by omega)
  | m' + 1, 0, t, i, hi, h1, h2 => absurd h2 (by omega)
  | m' + 1, m + 1, t, i, hi, h1, h2 => by
    unfold isLoop
    rw [cut_place hK hi]
    exact ct_tk hK hi (ct_bind (ct_next hK (b := 0) (fun q _ hq => typP_ct hK q hq) (typP_ec hK) (Nat.zero_le _) hi) (fun a j hj hjk => (isLoop_ct m' m _ j hjk (by omega) (by omega)).le (by omega)) fun a => isLoop_ec hK _ _) (ct_ok (by omega) (Nat.le_refl _))
theorem opP_ct {b : Nat} {part' part : Nat → PR Tm} (hp : ∀ i, b ≤ i → i < K → Ct K e (i + 1) (part' i) (part i)) (he : EndC K e (part' K)) (t : Tm) (i : Nat) (hb : b ≤ i + 1) (hi : i < K) : Ct K e (i + 1) (opP (cutW l K e) part' t i) (opP l part t i) := by
  unfold opP
  rw [cut_place hK hi, cut_text hK hi]
  exact ct_bind (ct_next hK hp he hb hi) (fun u j hj hjk => ct_ok (by omega) (by omega)) fun u => ec_ok
theorem opLoop_ec {part' : Nat → PR Tm} (ops : List ByteArray) (m : Nat) (t : Tm) : EndC K e (opLoop (cutW l K e) part' ops m t K) := by
  cases m with
  | zero => exact ec_ok
  | succ m => unfold opLoop; exact ec_opI hK ec_ok
theorem opLoop_ct {b : Nat} {part' part : Nat → PR Tm} (hp : ∀ i, b ≤ i → i < K → Ct K e (i + 1) (part' i) (part i)) (he : EndC K e (part' K)) (ops : List ByteArray) : ∀ (m' m : Nat) (t : Tm) (i : Nat), b ≤ i + 1 → i < K → K < m' + i → l.length < m + i → Ct K e i (opLoop (cutW l K e) part' ops m' t i) (opLoop l part ops m t i)
  | 0, m, t, i, hb, hi, h1, h2 => absurd h1 (by omega)
  | m' + 1, 0, t, i, hb, hi, h1, h2 => absurd h2 (by omega)
  | m' + 1, m + 1, t, i, hb, hi, h1, h2 => by
    unfold opLoop
    exact ct_opI hK hi (ct_bind (opP_ct hK hp he t i hb hi) (fun u j hj hjk => (opLoop_ct hp he ops m' m _ j (by omega) hjk (by omega) (by omega)).le (by omega)) fun u => opLoop_ec hK ops _ _) (ct_ok (by omega) (Nat.le_refl _))
theorem pAtom_ec {W' : Nat → PR Tm} : EndC K e (pAtom (cutW l K e) W' K) := by
  unfold pAtom
  rw [cut_end hK]
  simp only
  rw [if_neg (by decide), if_neg (by decide)]
  exact ec_tk hK (by decide) (ec_tk hK (by decide) (ec_tk hK (by decide) (ec_tk hK (by decide) (ec_wbad hK))))
theorem pAtom_ct {b : Nat} {W' W : Nat → PR Tm} (hW : ∀ i, b ≤ i → i < K → Ct K e (i + 1) (W' i) (W i)) (he : EndC K e (W' K)) (i : Nat) (hb : b ≤ i + 1) (hi : i < K) : Ct K e (i + 1) (pAtom (cutW l K e) W' i) (pAtom l W i) := by
  obtain ⟨w, hw⟩ : ∃ w, l[i]? = some w := ⟨_, List.getElem?_eq_getElem (by omega)⟩
  unfold pAtom
  rw [cut_get hK hi, hw]
  simp only
  by_cases q2 : w.kind = 2
  · rw [if_pos q2, if_pos q2]; exact ct_ok (by omega) (Nat.le_refl _)
  · rw [if_neg q2, if_neg q2]
    by_cases q1 : w.kind = 1
    · rw [if_pos q1, if_pos q1]; exact ct_ok (by omega) (Nat.le_refl _)
    · rw [if_neg q1, if_neg q1]
      refine ct_tk hK hi (ct_ok (by omega) (Nat.le_refl _)) (ct_tk hK hi (ct_ok (by omega) (Nat.le_refl _)) (ct_tk hK hi ?_ (ct_tk hK hi ?_ (ct_wbad hK hi))))
      · exact ct_bind (ct_next hK hW he hb hi) (fun t j hj hjk => ct_bind (mustP_ct hK _ _ j hjk) (fun _ j2 hj2 hjk2 => ct_ok (by omega) (by omega)) fun _ => ec_ok) fun t => ec_bind (m4_ec hK _) fun _ => ec_ok
      · exact ct_bind (ct_next hK hW he hb hi) (fun t j hj hjk => ct_bind (mustP_ct hK _ _ j hjk) (fun _ j2 hj2 hjk2 => ct_bind (hW j2 (by omega) hjk2) (fun u j3 hj3 hjk3 => ct_bind (mustP_ct hK _ _ j3 hjk3) (fun _ j4 hj4 hjk4 => ct_ok (by omega) (by omega)) fun _ => ec_ok) fun u => ec_bind (m4_ec hK _) fun _ => ec_ok) fun _ => ec_bind he fun u => ec_bind (m4_ec hK _) fun _ => ec_ok) fun t => ec_bind (m4_ec hK _) fun _ => ec_bind he fun u => ec_bind (m4_ec hK _) fun _ => ec_ok
theorem appLoop_ec {W' : Nat → PR Tm} (m : Nat) (t : Tm) : EndC K e (appLoop (cutW l K e) W' m t K) := by
  cases m with
  | zero => exact ec_ok
  | succ m => unfold appLoop; exact ec_tk hK (by decide) ec_ok
theorem appLoop_ct {b : Nat} {W' W : Nat → PR Tm} (hW : ∀ i, b ≤ i → i < K → Ct K e (i + 1) (W' i) (W i)) (he : EndC K e (W' K)) : ∀ (m' m : Nat) (t : Tm) (i : Nat), b ≤ i + 1 → i < K → K < m' + i → l.length < m + i → Ct K e i (appLoop (cutW l K e) W' m' t i) (appLoop l W m t i)
  | 0, m, t, i, hb, hi, h1, h2 => absurd h1 (by omega)
  | m' + 1, 0, t, i, hb, hi, h1, h2 => absurd h2 (by omega)
  | m' + 1, m + 1, t, i, hb, hi, h1, h2 => by
    unfold appLoop
    rw [cut_place hK hi]
    exact ct_tk hK hi (ct_bind (ct_next hK hW he hb hi) (fun a j hj hjk => ct_bind (mustP_ct hK _ _ j hjk) (fun _ j2 hj2 hjk2 => (appLoop_ct hW he m' m _ j2 (by omega) hjk2 (by omega) (by omega)).le (by omega)) fun _ => appLoop_ec hK _ _) fun a => ec_bind (m4_ec hK _) fun _ => appLoop_ec hK _ _) (ct_ok (by omega) (Nat.le_refl _))
theorem inP_ec {un' : Nat → PR Tm} (he : EndC K e (un' K)) (k p : Int) : EndC K e (inP (cutW l K e) un' k p K) := by
  unfold inP
  exact ec_bind (m4_ec hK _) fun _ => ec_bind (typP_ec hK) fun a => ec_bind (m4_ec hK _) fun _ => ec_bind he fun t => ec_ok
theorem inP_ct {b : Nat} {un' un : Nat → PR Tm} (hu : ∀ i, b ≤ i → i < K → Ct K e (i + 1) (un' i) (un i)) (he : EndC K e (un' K)) (k p : Int) (i : Nat) (hb : b ≤ i) (hi : i < K) : Ct K e (i + 1) (inP (cutW l K e) un' k p i) (inP l un k p i) := by
  unfold inP
  exact ct_bind (mustP_ct hK _ _ i hi) (fun _ j hj hjk => ct_bind (typP_ct hK j hjk) (fun a j2 hj2 hjk2 => ct_bind (mustP_ct hK _ _ j2 hjk2) (fun _ j3 hj3 hjk3 => ct_bind (hu j3 (by omega) hjk3) (fun t j4 hj4 hjk4 => ct_ok (by omega) (by omega)) fun t => ec_ok) fun _ => ec_bind he fun t => ec_ok) fun a => ec_bind (m4_ec hK _) fun _ => ec_bind he fun t => ec_ok) fun _ => ec_bind (typP_ec hK) fun a => ec_bind (m4_ec hK _) fun _ => ec_bind he fun t => ec_ok
theorem pUn_ec {W' : Nat → PR Tm} : ∀ m, EndC K e (pUn (cutW l K e) W' m K)
  | 0 => ec_wbad hK
  | m + 1 => by
    unfold pUn
    exact ec_tk hK (by decide) (ec_tk hK (by decide) (ec_tk hK (by decide) (ec_tk hK (by decide) (ec_tk hK (by decide) (ec_bind (pAtom_ec hK) fun t => appLoop_ec hK _ _)))))
theorem pUn_ct {b : Nat} {W' W : Nat → PR Tm} (hW : ∀ i, b ≤ i → i < K → Ct K e (i + 1) (W' i) (W i)) (he : EndC K e (W' K)) : ∀ (m' m i : Nat), b ≤ i + 1 → i < K → K < m' + i → l.length < m + i → Ct K e (i + 1) (pUn (cutW l K e) W' m' i) (pUn l W m i)
  | 0, m, i, hb, hi, h1, h2 => absurd h1 (by omega)
  | m' + 1, 0, i, hb, hi, h1, h2 => absurd h2 (by omega)
  | m' + 1, m + 1, i, hb, hi, h1, h2 => by
    have hu : ∀ q, i + 1 ≤ q → q < K → Ct K e (q + 1) (pUn (cutW l K e) W' m' q) (pUn l W m q) := fun q hq hqk => pUn_ct hW he m' m q (by omega) hqk (by omega) (by omega)
    have hue := pUn_ec hK (e := e) (W' := W') m'
    unfold pUn
    rw [cut_place hK hi, cut_len hK]
    refine ct_tk hK hi (ct_bind (ct_next hK hu hue (Nat.le_refl _) hi) (fun t j hj hjk => ct_ok (by omega) (by omega)) fun t => ec_ok) (ct_tk hK hi (ct_bind (ct_next hK hu hue (Nat.le_refl _) hi) (fun t j hj hjk => ct_ok (by omega) (by omega)) fun t => ec_ok)
      (ct_tk hK hi ((ct_next hK (f' := fun q => inP (cutW l K e) (pUn (cutW l K e) W' m') 12 (placeW l i) q) (f := fun q => inP l (pUn l W m) 12 (placeW l i) q) (fun q hq hqk => inP_ct hK hu hue 12 _ q hq hqk) (inP_ec hK hue 12 _) (Nat.le_refl _) hi).le (by omega))
      (ct_tk hK hi ((ct_next hK (f' := fun q => inP (cutW l K e) (pUn (cutW l K e) W' m') 13 (placeW l i) q) (f := fun q => inP l (pUn l W m) 13 (placeW l i) q) (fun q hq hqk => inP_ct hK hu hue 13 _ q hq hqk) (inP_ec hK hue 13 _) (Nat.le_refl _) hi).le (by omega))
      (ct_tk hK hi ((ct_next hK (f' := fun q => numP (cutW l K e) (placeW l i) q) (f := fun q => numP l (placeW l i) q) (b := 0) (fun q hq hqk => numP_ct hK _ q hqk) (numP_ec hK _) (Nat.zero_le _) hi).le (by omega)) ?_))))
    exact ct_bind (pAtom_ct hK hW he i hb hi) (fun t j hj hjk => (appLoop_ct hK hW he _ _ _ j (by omega) hjk (by omega) (by omega)).le hj) fun t => appLoop_ec hK _ _
theorem pMul_ec {W' : Nat → PR Tm} : EndC K e (pMul (cutW l K e) W' K) := by
  unfold pMul pU
  exact ec_bind (pUn_ec hK _) fun t => opLoop_ec hK _ _ _
theorem pSum_ec {W' : Nat → PR Tm} : EndC K e (pSum (cutW l K e) W' K) := by
  unfold pSum
  exact ec_bind (pMul_ec hK) fun t => opLoop_ec hK _ _ _
theorem pIs_ec {W' : Nat → PR Tm} : EndC K e (pIs (cutW l K e) W' K) := by
  unfold pIs pCmp
  exact ec_bind (ec_bind (pSum_ec hK) fun t => ec_opI hK ec_ok) fun t => isLoop_ec hK _ _
theorem pIs_ct {b : Nat} {W' W : Nat → PR Tm} (hW : ∀ i, b ≤ i → i < K → Ct K e (i + 1) (W' i) (W i)) (he : EndC K e (W' K)) (i : Nat) (hb : b ≤ i + 1) (hi : i < K) : Ct K e (i + 1) (pIs (cutW l K e) W' i) (pIs l W i) := by
  have hu : ∀ q, i ≤ q → q < K → Ct K e (q + 1) (pU (cutW l K e) W' q) (pU l W q) := fun q hq hqk => by unfold pU; rw [cut_len hK]; exact pUn_ct hK hW he _ _ q (by omega) hqk (by omega) (by omega)
  have hue : EndC K e (pU (cutW l K e) W' K) := pUn_ec hK _
  have hm : ∀ q, i ≤ q → q < K → Ct K e (q + 1) (pMul (cutW l K e) W' q) (pMul l W q) := fun q hq hqk => by
    unfold pMul; rw [cut_len hK]
    exact ct_bind (hu q hq hqk) (fun t j hj hjk => (opLoop_ct hK hu hue _ _ _ _ j (by omega) hjk (by omega) (by omega)).le hj) fun t => opLoop_ec hK _ _ _
  have hs : ∀ q, i ≤ q → q < K → Ct K e (q + 1) (pSum (cutW l K e) W' q) (pSum l W q) := fun q hq hqk => by
    unfold pSum; rw [cut_len hK]
    exact ct_bind (hm q hq hqk) (fun t j hj hjk => (opLoop_ct hK hm (pMul_ec hK) _ _ _ _ j (by omega) hjk (by omega) (by omega)).le hj) fun t => opLoop_ec hK _ _ _
  unfold pIs pCmp
  rw [cut_len hK]
  refine ct_bind (ct_bind (hs i (Nat.le_refl _) hi) (fun t j hj hjk => ct_opI hK hjk ((opP_ct hK hs (pSum_ec hK) t j (by omega) hjk).le (by omega)) (ct_ok (by omega) hj)) fun t => ec_opI hK ec_ok) (fun t j hj hjk => (isLoop_ct hK _ _ _ j hjk (by omega) (by omega)).le hj) fun t => isLoop_ec hK _ _
theorem branchP_ec {W' : Nat → PR Tm} (he : EndC K e (W' K)) : EndC K e (branchP (cutW l K e) W' K) := by
  unfold branchP
  exact ec_bind (nameP_ec hK) fun x => ec_bind (m4_ec hK _) fun _ => ec_bind he fun t => ec_ok
theorem branchP_ct {b : Nat} {W' W : Nat → PR Tm} (hW : ∀ i, b ≤ i → i < K → Ct K e (i + 1) (W' i) (W i)) (he : EndC K e (W' K)) (i : Nat) (hb : b ≤ i) (hi : i < K) : Ct K e (i + 1) (branchP (cutW l K e) W' i) (branchP l W i) := by
  unfold branchP
  exact ct_bind (nameP_ct hK i hi) (fun x j hj hjk => ct_bind (mustP_ct hK _ _ j hjk) (fun _ j2 hj2 hjk2 => ct_bind (hW j2 (by omega) hjk2) (fun t j3 hj3 hjk3 => ct_ok (by omega) (by omega)) fun t => ec_ok) fun _ => ec_bind he fun t => ec_ok) fun x => ec_bind (m4_ec hK _) fun _ => ec_bind he fun t => ec_ok
theorem pStep_ec {W' : Nat → PR Tm} : EndC K e (pStep (cutW l K e) W' K) := by
  unfold pStep
  exact ec_tk hK (by decide) (ec_tk hK (by decide) (ec_tk hK (by decide) (ec_tk hK (by decide) (ec_tk hK (by decide) (pIs_ec hK)))))
theorem pStep_ct {b : Nat} {W' W : Nat → PR Tm} (hW : ∀ i, b ≤ i → i < K → Ct K e (i + 1) (W' i) (W i)) (he : EndC K e (W' K)) (i : Nat) (hb : b ≤ i + 1) (hi : i < K) : Ct K e (i + 1) (pStep (cutW l K e) W' i) (pStep l W i) := by
  have an : ∀ q, 0 ≤ q → q < K → Ct K e (q + 1) (annP (cutW l K e) q) (annP l q) := fun q _ hq => annP_ct hK q hq
  have nm : ∀ q, 0 ≤ q → q < K → Ct K e (q + 1) (nameP (cutW l K e) q) (nameP l q) := fun q _ hq => nameP_ct hK q hq
  unfold pStep
  rw [cut_place hK hi]
  refine ct_tk hK hi ?_ (ct_tk hK hi ?_ (ct_tk hK hi ?_ (ct_tk hK hi ?_ (ct_tk hK hi ?_ (pIs_ct hK hW he i hb hi)))))
  · unfold lamP
    exact ct_bind (ct_next hK an (annP_ec hK) (Nat.zero_le _) hi) (fun x j hj hjk => ct_bind (mustP_ct hK _ _ j hjk) (fun _ j2 hj2 hjk2 => ct_bind (hW j2 (by omega) hjk2) (fun t j3 hj3 hjk3 => ct_ok (by omega) (by omega)) fun t => ec_ok) fun _ => ec_bind he fun t => ec_ok) fun x => ec_bind (m4_ec hK _) fun _ => ec_bind he fun t => ec_ok
  · unfold letP
    exact ct_bind (ct_next hK an (annP_ec hK) (Nat.zero_le _) hi) (fun x j hj hjk => ct_bind (mustP_ct hK _ _ j hjk) (fun _ j2 hj2 hjk2 => ct_bind (hW j2 (by omega) hjk2) (fun t j3 hj3 hjk3 => ct_bind (mustP_ct hK _ _ j3 hjk3) (fun _ j4 hj4 hjk4 => ct_bind (hW j4 (by omega) hjk4) (fun u j5 hj5 hjk5 => ct_ok (by omega) (by omega)) fun u => ec_ok) fun _ => ec_bind he fun u => ec_ok) fun t => ec_bind (m3_ec hK _) fun _ => ec_bind he fun u => ec_ok) fun _ => ec_bind he fun t => ec_bind (m3_ec hK _) fun _ => ec_bind he fun u => ec_ok) fun x => ec_bind (m4_ec hK _) fun _ => ec_bind he fun t => ec_bind (m3_ec hK _) fun _ => ec_bind he fun u => ec_ok
  · unfold ifP
    exact ct_bind (ct_next hK hW he hb hi) (fun a j hj hjk => ct_bind (mustP_ct hK _ _ j hjk) (fun _ j2 hj2 hjk2 => ct_bind (hW j2 (by omega) hjk2) (fun t j3 hj3 hjk3 => ct_bind (mustP_ct hK _ _ j3 hjk3) (fun _ j4 hj4 hjk4 => ct_bind (hW j4 (by omega) hjk4) (fun u j5 hj5 hjk5 => ct_ok (by omega) (by omega)) fun u => ec_ok) fun _ => ec_bind he fun u => ec_ok) fun t => ec_bind (m3_ec hK _) fun _ => ec_bind he fun u => ec_ok) fun _ => ec_bind he fun t => ec_bind (m3_ec hK _) fun _ => ec_bind he fun u => ec_ok) fun a => ec_bind (m3_ec hK _) fun _ => ec_bind he fun t => ec_bind (m3_ec hK _) fun _ => ec_bind he fun u => ec_ok
  · unfold recP
    exact ct_bind (ct_next hK nm (nameP_ec hK) (Nat.zero_le _) hi) (fun f j hj hjk => ct_bind (mustP_ct hK _ _ j hjk) (fun _ j2 hj2 hjk2 => ct_bind (annP_ct hK j2 hjk2) (fun x j3 hj3 hjk3 => ct_bind (mustP_ct hK _ _ j3 hjk3) (fun _ j4 hj4 hjk4 => ct_bind (mustP_ct hK _ _ j4 hjk4) (fun _ j5 hj5 hjk5 => ct_bind (typP_ct hK j5 hjk5) (fun b2 j6 hj6 hjk6 => ct_bind (mustP_ct hK _ _ j6 hjk6) (fun _ j7 hj7 hjk7 => ct_bind (hW j7 (by omega) hjk7) (fun t j8 hj8 hjk8 => ct_ok (by omega) (by omega)) fun t => ec_ok) fun _ => ec_bind he fun t => ec_ok) fun b2 => ec_bind (m4_ec hK _) fun _ => ec_bind he fun t => ec_ok) fun _ => ec_bind (typP_ec hK) fun b2 => ec_bind (m4_ec hK _) fun _ => ec_bind he fun t => ec_ok) fun _ => ec_bind (m4_ec hK _) fun _ => ec_bind (typP_ec hK) fun b2 => ec_bind (m4_ec hK _) fun _ => ec_bind he fun t => ec_ok) fun x => ec_bind (m4_ec hK _) fun _ => ec_bind (m4_ec hK _) fun _ => ec_bind (typP_ec hK) fun b2 => ec_bind (m4_ec hK _) fun _ => ec_bind he fun t => ec_ok) fun _ => ec_bind (annP_ec hK) fun x => ec_bind (m4_ec hK _) fun _ => ec_bind (m4_ec hK _) fun _ => ec_bind (typP_ec hK) fun b2 => ec_bind (m4_ec hK _) fun _ => ec_bind he fun t => ec_ok) fun f => ec_bind (m4_ec hK _) fun _ => ec_bind (annP_ec hK) fun x => ec_bind (m4_ec hK _) fun _ => ec_bind (m4_ec hK _) fun _ => ec_bind (typP_ec hK) fun b2 => ec_bind (m4_ec hK _) fun _ => ec_bind he fun t => ec_ok
  · unfold caseP
    exact ct_bind (ct_next hK hW he hb hi) (fun a j hj hjk => ct_bind (mustP_ct hK _ _ j hjk) (fun _ j2 hj2 hjk2 => ct_bind (branchP_ct hK hW he j2 (by omega) hjk2) (fun x j3 hj3 hjk3 => ct_bind (mustP_ct hK _ _ j3 hjk3) (fun _ j4 hj4 hjk4 => ct_bind (branchP_ct hK hW he j4 (by omega) hjk4) (fun y j5 hj5 hjk5 => ct_ok (by omega) (by omega)) fun y => ec_ok) fun _ => ec_bind (branchP_ec hK he) fun y => ec_ok) fun x => ec_bind (m4_ec hK _) fun _ => ec_bind (branchP_ec hK he) fun y => ec_ok) fun _ => ec_bind (branchP_ec hK he) fun x => ec_bind (m4_ec hK _) fun _ => ec_bind (branchP_ec hK he) fun y => ec_ok) fun a => ec_bind (m3_ec hK _) fun _ => ec_bind (branchP_ec hK he) fun x => ec_bind (m4_ec hK _) fun _ => ec_bind (branchP_ec hK he) fun y => ec_ok
theorem pTerm_ec : ∀ n', EndC K e (pTerm (cutW l K e) n' K)
  | 0 => ec_wbad hK
  | n' + 1 => pStep_ec hK
theorem pTerm_ct : ∀ (n' n i : Nat), i < K → K < n' + i → l.length < n + i → Ct K e (i + 1) (pTerm (cutW l K e) n' i) (pTerm l n i)
  | 0, n, i, hi, h1, h2 => absurd h1 (by omega)
  | n' + 1, 0, i, hi, h1, h2 => absurd h2 (by omega)
  | n' + 1, n + 1, i, hi, h1, h2 => pStep_ct hK (b := i + 1) (fun q hq hqk => pTerm_ct n' n q hqk (by omega) (by omega)) (pTerm_ec hK n') i (Nat.le_refl _) hi
theorem wordsP_ct : EndC K e (wordsP (cutW l K e)) ∨ (wordsP (cutW l K e) = wordsP l ∧ ∀ x j, wordsP l = .ok x j → j < K) := by
  have h : Ct K e 0 (pTerm (cutW l K e) ((cutW l K e).length + 1) 0) (pTerm l (l.length + 1) 0) := by
    rw [cut_len hK]
    by_cases h0 : 0 = K
    · have := pTerm_ec hK (e := e) (K + 1 + 1)
      rw [← h0] at this ⊢
      exact .inl this
    · exact (pTerm_ct hK _ _ 0 (by omega) (by omega) (by omega)).le (Nat.zero_le _)
  have hc : Ct K e 0 (wordsP (cutW l K e)) (wordsP l) := by
    unfold wordsP
    refine ct_bind h (fun x j hj hjk => ?_) (fun x => ?_)
    · split
      · exact ct_bad
      · split
        · exact ct_bad
        · exact ct_ok (by omega) hj
    · split
      · exact .inr (.inl ⟨_, _, _, rfl, by decide⟩)
      · split
        · exact .inr (.inl ⟨_, _, _, rfl, by decide⟩)
        · exact ec_ok
  rcases hc with h | ⟨h1, h2⟩
  · exact .inl h
  · exact .inr ⟨h1, fun x j q => (h2 x j (h1.trans q)).2⟩
end
end Go.Proofs.YtmaokphbfjpodaaDoor.E

/- Texts with other blanks, and texts that are cut, are scanned as they must; in plain Lean. No conditions. -/
set_option linter.unusedVariables false
set_option linter.unusedSimpArgs false
namespace Go.Proofs.YtmaokphbfjpodaaDoor.E
open Go

theorem skip0_head {c : UInt8} {a b : List UInt8} (h : skipL false (c :: a) = 0) : skipL false (c :: b) = 0 := by
  rw [skipL] at h ⊢
  by_cases h1 : c = 10
  · rw [if_pos h1] at h; omega
  · rw [if_neg h1] at h ⊢
    rw [if_neg (by decide)] at h ⊢
    by_cases h2 : c = 32 ∨ c = 9 ∨ c = 13
    · rw [if_pos h2] at h; omega
    · rw [if_neg h2] at h ⊢
      by_cases h3 : c = 35
      · rw [if_pos h3] at h; omega
      · rw [if_neg h3]
theorem skipL_take : ∀ (s : List UInt8) (b : Bool) (m : Nat), skipL b s ≤ m → skipL b (s.take m) = skipL b s
  | [], b, m, h => by simp
  | c :: s, b, 0, h => by
    have : skipL b (c :: s) = 0 := by omega
    rw [this]; rfl
  | c :: s, b, m + 1, h => by
    rw [List.take_succ_cons]
    have e : ∀ a : List UInt8, skipL b (c :: a) = if c = 10 then 1 + skipL false a else if b = true then 1 + skipL true a else if c = 32 ∨ c = 9 ∨ c = 13 then 1 + skipL false a else if c = 35 then 1 + skipL true a else 0 := fun a => by rw [skipL]
    rw [e] at h
    rw [e, e]
    by_cases h1 : c = 10
    · rw [if_pos h1] at h; rw [if_pos h1, if_pos h1, skipL_take s _ m (by omega)]
    · rw [if_neg h1] at h; rw [if_neg h1, if_neg h1]
      by_cases h2 : b = true
      · rw [if_pos h2] at h; rw [if_pos h2, if_pos h2, skipL_take s _ m (by omega)]
      · rw [if_neg h2] at h; rw [if_neg h2, if_neg h2]
        by_cases h3 : c = 32 ∨ c = 9 ∨ c = 13
        · rw [if_pos h3] at h; rw [if_pos h3, if_pos h3, skipL_take s _ m (by omega)]
        · rw [if_neg h3] at h; rw [if_neg h3, if_neg h3]
          by_cases h4 : c = 35
          · rw [if_pos h4] at h; rw [if_pos h4, if_pos h4, skipL_take s _ m (by omega)]
          · rw [if_neg h4, if_neg h4]
theorem scan_again {n p : Nat} {r s : List UInt8} {w : Wd} {q : Nat} (hw : wordL q r = .ok w) (h0 : skipL false r = 0) (hs : Nxt (r.drop w.text.size) s) : scanL (n + 1) p (w.text.data.toList ++ s) = match scanL n (p + w.text.size) s with
    | .error x => .error x
    | .ok l => .ok (⟨w.kind, w.text, w.num, p⟩ :: l) := by
  obtain ⟨e1, e2⟩ := wordL_again hw hs p
  obtain ⟨z1, z2, z3⟩ := wordL_ok hw
  have hlen : w.text.data.toList.length = w.text.size := rfl
  obtain ⟨c, a, ec⟩ : ∃ c a, w.text.data.toList = c :: a := by
    cases hq : w.text.data.toList with
    | nil => rw [hq] at hlen; simp at hlen; omega
    | cons c a => exact ⟨c, a, rfl⟩
  have hk : skipL false (w.text.data.toList ++ s) = 0 := by
    rw [ec, List.cons_append]
    cases r with
    | nil => cases hw
    | cons d r =>
      have : d = c := by
        rw [ec, show w.text.size = (w.text.size - 1) + 1 by omega, List.take_succ_cons] at e2
        exact (List.cons.inj e2).1
      subst this
      exact skip0_head h0
  have hd : (w.text.data.toList ++ s).drop w.text.size = s := by
    conv => lhs; rw [← hlen]
    simp
  rw [scanL_step n p _ hk (by rw [ec]; simp), e1]
  simp only
  rw [hd]
  rfl
/-- The words ahead of a place. -/
theorem scan_cut : ∀ (n p : Nat) (s : List UInt8) (ws : List Wd), scanL n p s = .ok ws → s.length < n → ∀ K, K ≤ ws.length →
    ∃ m, m ≤ s.length ∧ (match ws[K]? with | some w => w.place = ((p + m : Nat) : Int) | none => m = s.length) ∧ ∀ n', m < n' → scanL n' p (s.take m) = .ok (ws.take K)
  | 0, p, s, ws, h, hn, K, hK => absurd hn (Nat.not_lt_zero _)
  | n + 1, p, s, ws, h, hn, K, hK => by
    rw [scanL_skip] at h
    have hkl := skipL_le false s
    by_cases hr : s.drop (skipL false s) = []
    · rw [hr, scanL_nil] at h
      cases h
      obtain rfl : K = 0 := by simpa using hK
      refine ⟨s.length, Nat.le_refl _, rfl, fun n' hn' => ?_⟩
      obtain ⟨n', rfl⟩ : ∃ q, n' = q + 1 := ⟨n' - 1, by omega⟩
      rw [List.take_length, scanL_skip, hr, scanL_nil]; rfl
    · have hag := skipL_again s false
      generalize hq : s.drop (skipL false s) = r at h hr hag
      rw [scanL_step n _ r hag hr] at h
      split at h
      · cases h
      · rename_i w hw
        split at h
        · cases h
        · rename_i l' hl
          cases h
          obtain ⟨z1, z2, z3⟩ := wordL_ok hw
          have hrl : r.length = s.length - skipL false s := by rw [← hq]; simp
          cases K with
          | zero =>
            refine ⟨skipL false s, hkl, by simpa using z3, fun n' hn' => ?_⟩
            obtain ⟨n', rfl⟩ : ∃ q, n' = q + 1 := ⟨n' - 1, by omega⟩
            rw [scanL_skip, skipL_take s false _ (Nat.le_refl _)]
            have : (s.take (skipL false s)).drop (skipL false s) = [] := by rw [List.drop_eq_nil_iff]; simp; omega
            rw [this, scanL_nil]; rfl
          | succ K =>
            obtain ⟨m2, a1, a2, a3⟩ := scan_cut n _ _ _ hl (by simp; omega) K (by simpa using hK)
            simp only [List.length_drop] at a1
            refine ⟨skipL false s + w.text.size + m2, by omega, ?_, fun n' hn' => ?_⟩
            · rw [List.getElem?_cons_succ]
              cases hg : l'[K]? with
              | none => rw [hg] at a2; simp only [List.length_drop] at a2 ⊢; omega
              | some v => rw [hg] at a2; simp only at a2 ⊢; rw [a2]; congr 1; omega
            · obtain ⟨n', rfl⟩ : ∃ q, n' = q + 1 := ⟨n' - 1, by omega⟩
              have e1 : (s.take (skipL false s + w.text.size + m2)).drop (skipL false s) = r.take (w.text.size + m2) := by
                rw [List.drop_take, hq]; congr 1; omega
              have hnx : Nxt (r.drop w.text.size) ((r.drop w.text.size).take m2) := by
                cases m2 with
                | zero => exact .inl rfl
                | succ m2 => cases hd : r.drop w.text.size with
                  | nil => exact .inl rfl
                  | cons c a => exact .inr (.inl ⟨c, a, _, rfl, rfl⟩)
              have e2 : r.take (w.text.size + m2) = w.text.data.toList ++ (r.drop w.text.size).take m2 := by
                rw [← (wordL_again hw hnx 0).2, List.take_add]
              rw [scanL_skip, skipL_take s false _ (by omega), e1, e2, scan_again hw hag hnx, a3 n' (by omega)]
              simp only [List.take_succ_cons]
              rw [← z3]
/-- Every word was read somewhere. -/
theorem scan_words : ∀ (n p : Nat) (s : List UInt8) (ws : List Wd), scanL n p s = .ok ws → ∀ w ∈ ws, ∃ q l, wordL q l = .ok w ∧ skipL false l = 0
  | 0, p, s, ws, h, w, hw => by cases h; simp at hw
  | n + 1, p, s, ws, h, w, hw => by
    rw [scanL_skip] at h
    by_cases hr : s.drop (skipL false s) = []
    · rw [hr, scanL_nil] at h; cases h; simp at hw
    · have hag := skipL_again s false
      rw [scanL_step n _ _ hag hr] at h
      split at h
      · cases h
      · rename_i v hv
        split at h
        · cases h
        · rename_i l' hl
          cases h
          rcases List.mem_cons.1 hw with rfl | hw
          · exact ⟨_, _, hv, hag⟩
          · exact scan_words n _ _ _ hl w hw
/-- Words with blanks behind them. -/
def spread (bl : Nat → List UInt8) : Nat → List Wd → List UInt8
  | _, [] => []
  | i, w :: ws => w.text.data.toList ++ (bl i ++ spread bl (i + 1) ws)
structure BlOk (bl : Nat → List UInt8) : Prop where
  skip : ∀ i s, skipL false (bl i ++ s) = (bl i).length + skipL false s
  head : ∀ i, ∃ c a, bl i = c :: a ∧ (c = 32 ∨ c = 9 ∨ c = 10 ∨ c = 13)
theorem scan_bl {b : List UInt8} (h : ∀ s, skipL false (b ++ s) = b.length + skipL false s) (n p : Nat) (s : List UInt8) : scanL (n + 1) p (b ++ s) = scanL (n + 1) (p + b.length) s := by
  rw [scanL_skip, h, scanL_skip n (p + b.length) s, ← List.drop_drop, Nat.add_assoc]
  congr 2
  simp
theorem scan_spread {bl : Nat → List UInt8} (hb : BlOk bl) {v : Wd} (hv : v.text = s0) : ∀ (ws : List Wd) (i : Nat), (∀ w ∈ ws, ∃ q l, wordL q l = .ok w ∧ skipL false l = 0) → ∀ n p, (spread bl i (ws ++ [v])).length < n → ∃ ws', scanL n p (spread bl i (ws ++ [v])) = .ok ws' ∧ ws'.map Wd.tk = ws.map Wd.tk
  | [], i, _, n, p, hn => by
    obtain ⟨n, rfl⟩ : ∃ q, n = q + 1 := ⟨n - 1, by omega⟩
    refine ⟨[], ?_, rfl⟩
    show scanL (n + 1) p (v.text.data.toList ++ (bl i ++ [])) = _
    rw [hv, show s0.data.toList = [] from rfl, List.nil_append, scan_bl (hb.skip i)]
    rfl
  | w :: ws, i, h, n, p, hn => by
    obtain ⟨q, l, h1, h2⟩ := h w (by simp)
    obtain ⟨z1, z2, z3⟩ := wordL_ok h1
    have e : spread bl i (w :: ws ++ [v]) = w.text.data.toList ++ (bl i ++ spread bl (i + 1) (ws ++ [v])) := rfl
    have hlen : w.text.data.toList.length = w.text.size := rfl
    rw [e, List.length_append, List.length_append, hlen] at hn
    obtain ⟨n, rfl⟩ : ∃ q, n = q + 2 := ⟨n - 2, by omega⟩
    have hnx : Nxt (l.drop w.text.size) (bl i ++ spread bl (i + 1) (ws ++ [v])) := by
      obtain ⟨c, a, e, hc⟩ := hb.head i
      rw [e]; exact .inr (.inr ⟨c, _, rfl, hc⟩)
    rw [e, scan_again h1 h2 hnx, scan_bl (hb.skip i)]
    obtain ⟨ws', f1, f2⟩ := scan_spread hb hv ws (i + 1) (fun w hw => h w (by simp [hw])) (n + 1) (p + w.text.size + (bl i).length) (by omega)
    rw [f1]
    exact ⟨_, rfl, by rw [List.map_cons, List.map_cons, f2]; rfl⟩
/-- A text with other blanks has the same words. -/
theorem blanks_scan {bl : Nat → List UInt8} (hb : BlOk bl) {s s' : ByteArray} {l : List Wd} (h : scanF s = .ok l) (hs' : s'.data.toList = spread bl 0 l) (hz : s'.size ≤ 65536) : ∃ l', scanF s' = .ok l' ∧ SameW l l' := by
  obtain ⟨_, ws, rfl, _, h2⟩ := scanF_ok h
  have hlen : s'.data.toList.length = s'.size := rfl
  obtain ⟨ws', f1, f2⟩ := scan_spread hb (v := ⟨0, s0, 0, s.size⟩) rfl ws 0 (scan_words _ _ _ _ h2) (s'.size + 1) 0 (by rw [← hs', hlen]; omega)
  refine ⟨ws' ++ [⟨0, s0, 0, s'.size⟩], ?_, ?_⟩
  · unfold scanF
    rw [if_neg (by omega), hs', f1]
  · unfold SameW
    rw [List.map_append, List.map_append, f2]; rfl
/-- A text that is cut ahead of a word has the words ahead of it. -/
theorem cut_scan {s : ByteArray} {l : List Wd} (h : scanF s = .ok l) {k : Nat} (hk : k < l.length) : ∃ (w : Wd) (m : Nat), l[k]? = some w ∧ m ≤ s.size ∧ w.place = (m : Int) ∧ scanF (s.extract 0 m) = .ok (cutW l k m) := by
  obtain ⟨hz, ws, rfl, hw, h2⟩ := scanF_ok h
  have hlen : s.data.toList.length = s.size := rfl
  have hk2 : k ≤ ws.length := by simp at hk; omega
  obtain ⟨m, a1, a2, a3⟩ := scan_cut _ _ _ _ h2 (by rw [hlen]; omega) k hk2
  rw [hlen] at a1
  have ext : (s.extract 0 m).data.toList = s.data.toList.take m := by
    rw [ByteArray.data_extract, Array.toList_extract, List.extract_eq_take_drop]
    simp
  have hsz : (s.extract 0 m).size = m := by simp; omega
  obtain ⟨w, w1, w2⟩ : ∃ w, (ws ++ [(⟨0, s0, 0, s.size⟩ : Wd)])[k]? = some w ∧ w.place = (m : Int) := by
    cases hg : ws[k]? with
    | some w =>
      rw [hg] at a2
      simp only [Nat.zero_add] at a2
      exact ⟨w, by rw [List.getElem?_append_left ((List.getElem?_eq_some_iff.1 hg).1), hg], a2⟩
    | none =>
      rw [hg] at a2
      simp only at a2
      have hge := List.getElem?_eq_none_iff.1 hg
      obtain rfl : k = ws.length := by omega
      exact ⟨⟨0, s0, 0, s.size⟩, by simp, by rw [a2, hlen]⟩
  refine ⟨w, m, w1, a1, w2, ?_⟩
  have hsc : scanL (m + 1) 0 (s.data.toList.take m) = .ok (ws.take k) := a3 (m + 1) (by omega)
  unfold scanF
  rw [hsz, if_neg (by omega), ext, hsc]
  simp only
  unfold cutW
  rw [List.take_append_of_le_length hk2]
end Go.Proofs.YtmaokphbfjpodaaDoor.E
