/- Texts, merged: Sc7, Pm2, Tm14, Tmd, On0, Cl1, Pl1. No conditions. -/
import Derived.Test.YtmaokphbfjpodaaDoorGenX4
/- Plain facts of the scanner. No conditions. -/
set_option linter.unusedVariables false
set_option linter.unusedSimpArgs false
namespace Go.Proofs.YtmaokphbfjpodaaDoor.E
open Go

theorem spanL_le (b : Bool) : ∀ l : List UInt8, spanL b l ≤ l.length
  | [] => Nat.le_refl _
  | c :: l => by
    have := spanL_le b l
    unfold spanL
    split <;> simp <;> omega
theorem wordL_letter {p : Nat} {c : UInt8} {l : List UInt8} (h : letterF c.toNat = true) : wordL p (c :: l) =
    (if ((c :: l).take (spanL true (c :: l))).toArray.size > 64 then .error (3, ⟨((c :: l).take (spanL true (c :: l))).toArray⟩) else if keyF ⟨((c :: l).take (spanL true (c :: l))).toArray⟩ = true then .ok ⟨3, ⟨((c :: l).take (spanL true (c :: l))).toArray⟩, 0, p⟩ else .ok ⟨1, ⟨((c :: l).take (spanL true (c :: l))).toArray⟩, 0, p⟩) := by
  unfold wordL
  simp only
  rw [if_pos h]
  rfl
def nextLetter : List UInt8 → Bool
  | d :: _ => letterF d.toNat
  | [] => false
theorem wordL_digit {p : Nat} {c : UInt8} {l : List UInt8} (h : letterF c.toNat = false) (h2 : digitF c.toNat = true) : wordL p (c :: l) =
    (match numL 0 ((c :: l).take (spanL false (c :: l))) with
      | none => .error (3, ⟨((c :: l).take (spanL false (c :: l))).toArray⟩)
      | some v => if (spanL false (c :: l) > 1 ∧ c = 48) ∨ nextLetter ((c :: l).drop (spanL false (c :: l))) = true then .error (10, ⟨((c :: l).take (spanL false (c :: l))).toArray⟩) else .ok ⟨2, ⟨((c :: l).take (spanL false (c :: l))).toArray⟩, v, p⟩) := by
  unfold wordL
  simp only
  rw [if_neg (by rw [h]; decide), if_pos h2]
  rfl
theorem wordL_sign {p : Nat} {c : UInt8} {l : List UInt8} (h : letterF c.toNat = false) (h2 : digitF c.toNat = false) (h3 : c ≠ 45) (h4 : c ∈ signsF) : wordL p (c :: l) = .ok ⟨4, ⟨#[c]⟩, 0, p⟩ := by
  unfold wordL
  simp only
  rw [if_neg (by rw [h]; decide), if_neg (by rw [h2]; decide), if_neg h3, if_pos h4]
theorem wordL_none {p : Nat} {c : UInt8} {l : List UInt8} (h : letterF c.toNat = false) (h2 : digitF c.toNat = false) (h3 : c ≠ 45) (h4 : c ∉ signsF) : wordL p (c :: l) = .error (10, ⟨#[c]⟩) := by
  unfold wordL
  simp only
  rw [if_neg (by rw [h]; decide), if_neg (by rw [h2]; decide), if_neg h3, if_neg h4]
theorem wordL_arrow {p : Nat} {l : List UInt8} : wordL p (45 :: 62 :: l) = .ok ⟨4, ⟨#[45, 62]⟩, 0, p⟩ := rfl
theorem wordL_dash {p : Nat} {l : List UInt8} (h : ∀ r, l ≠ 62 :: r) : wordL p (45 :: l) = .ok ⟨4, ⟨#[45]⟩, 0, p⟩ := by
  unfold wordL
  simp only
  rw [if_neg (by decide), if_neg (by decide)]
  simp only [if_true]
theorem skipL_le (b : Bool) : ∀ l : List UInt8, skipL b l ≤ l.length
  | [] => Nat.le_refl _
  | c :: l => by
    have h1 := skipL_le false l
    have h2 := skipL_le true l
    unfold skipL
    repeat' split
    all_goals simp <;> omega
theorem skipL_again : ∀ (l : List UInt8) (b : Bool), skipL false (l.drop (skipL b l)) = 0
  | [], b => by simp [skipL]
  | c :: l, b => by
    have h1 := skipL_again l false
    have h2 := skipL_again l true
    have hd : ∀ n, (c :: l).drop (1 + n) = l.drop n := fun n => by rw [Nat.add_comm]; rfl
    rw [skipL]
    split
    · rw [hd]; exact h1
    · rename_i hc
      split
      · rw [hd]; exact h2
      · rename_i hb
        split
        · rw [hd]; exact h1
        · split
          · rw [hd]; exact h2
          · rename_i h3 h4
            simp only [List.drop_zero, skipL, if_neg hc, if_neg h3, if_neg h4, Bool.false_eq_true, if_false]
theorem ite_ok {P : Prop} [Decidable P] {α β : Type} {a : α} {b w : β} (h : (if P then (.error a : Except α β) else .ok b) = .ok w) : b = w := by
  by_cases hp : P
  · rw [if_pos hp] at h; cases h
  · rw [if_neg hp] at h; cases h; rfl
theorem wordL_ok {p : Nat} {l : List UInt8} {w : Wd} (h : wordL p l = .ok w) : 1 ≤ w.text.size ∧ w.text.size ≤ l.length ∧ w.place = p := by
  cases l with
  | nil => cases h
  | cons c l =>
    have hs := fun b => spanL_le b (c :: l)
    have hz : ∀ n, n ≤ (c :: l).length → (ByteArray.mk ((c :: l).take n).toArray).size = n := fun n hn => by
      show ((c :: l).take n).toArray.size = n
      simp at hn ⊢; omega
    by_cases h1 : letterF c.toNat = true
    · have hp : 1 ≤ spanL true (c :: l) := by rw [spanL, if_pos (by rw [h1]; simp)]; omega
      rw [wordL_letter h1] at h
      split at h
      · cases h
      · split at h <;> (cases h; exact ⟨by rw [hz _ (hs true)]; exact hp, by rw [hz _ (hs true)]; exact hs true, rfl⟩)
    · have h1 : letterF c.toNat = false := by simpa using h1
      by_cases h2 : digitF c.toNat = true
      · have hp : 1 ≤ spanL false (c :: l) := by rw [spanL, if_pos (by rw [h2]; simp)]; omega
        rw [wordL_digit h1 h2] at h
        split at h
        · cases h
        · rename_i v hv
          have e := ite_ok h
          subst e
          exact ⟨by rw [hz _ (hs false)]; exact hp, by rw [hz _ (hs false)]; exact hs false, rfl⟩
      · have h2 : digitF c.toNat = false := by simpa using h2
        unfold wordL at h
        simp only at h
        rw [if_neg (by rw [h1]; decide), if_neg (by rw [h2]; decide)] at h
        split at h
        · split at h
          · cases h
            exact ⟨by show 1 ≤ 2; omega, by show 2 ≤ _; simp, rfl⟩
          · cases h
            exact ⟨by show 1 ≤ 1; omega, by show 1 ≤ _; simp, rfl⟩
        · split at h
          · cases h
            exact ⟨by show 1 ≤ 1; omega, by show 1 ≤ _; simp, rfl⟩
          · cases h
theorem scanL_skip (n p : Nat) (l : List UInt8) : scanL (n + 1) p l = scanL (n + 1) (p + skipL false l) (l.drop (skipL false l)) := by
  rw [scanL, scanL]
  simp only [skipL_again, List.drop_zero, Nat.add_zero]
theorem scanL_step (n p : Nat) (l : List UInt8) (h : skipL false l = 0) (hl : l ≠ []) : scanL (n + 1) p l = match wordL p l with
    | .error (e, w) => .error (e, (p : Nat), w)
    | .ok w => match scanL n (p + w.text.size) (l.drop w.text.size) with
      | .error x => .error x
      | .ok l => .ok (w :: l) := by
  rw [scanL]
  simp only [h, List.drop_zero, Nat.add_zero]
  cases l with
  | nil => exact absurd rfl hl
  | cons c l => rfl
theorem scanL_nil (n p : Nat) : scanL (n + 1) p [] = .ok [] := rfl
theorem spanL_app (b : Bool) : ∀ (l s : List UInt8), (∀ c ∈ l, (digitF c.toNat || (b && letterF c.toNat)) = true) → spanL b s = 0 → spanL b (l ++ s) = l.length
  | [], s, _, h => by simpa using h
  | c :: l, s, hl, h => by
    rw [List.cons_append, spanL, if_pos (hl c (by simp)), spanL_app b l s (fun c hc => hl c (by simp [hc])) h, List.length_cons]
    omega
theorem spanL_all (b : Bool) : ∀ l : List UInt8, ∀ c ∈ l.take (spanL b l), (digitF c.toNat || (b && letterF c.toNat)) = true
  | [], c, h => by simp at h
  | d :: l, c, h => by
    unfold spanL at h
    split at h
    · rename_i hd
      rw [show 1 + spanL b l = spanL b l + 1 by omega, List.take_succ_cons] at h
      rcases List.mem_cons.1 h with rfl | h
      · exact hd
      · exact spanL_all b l c h
    · simp at h
theorem byteAt_list {w : ByteArray} {c : UInt8} {l : List UInt8} (e : w.data.toList = c :: l) : byteAt w 0 = ((c.toNat : Nat) : Int) := by
  unfold byteAt
  rw [e]
  rfl
end Go.Proofs.YtmaokphbfjpodaaDoor.E

/- The reader stops at the last word, in plain Lean. No conditions. -/
set_option linter.unusedVariables false
set_option linter.unusedSimpArgs false
set_option linter.unusedSectionVars false
namespace Go.Proofs.YtmaokphbfjpodaaDoor.E
open Go

def Bd {α : Type} (K : Nat) (p : PR α) : Prop := ∀ x j, p = .ok x j → j ≤ K
def EndW (l : List Wd) (K : Nat) : Prop := ∃ w, l[K]? = some w ∧ w.kind = 0
theorem bd_bad {α : Type} {K : Nat} {e a : Int} {w : ByteArray} : Bd K (.bad e a w : PR α) := fun x j h => by cases h
theorem bd_wbad {α : Type} {K : Nat} {l : List Wd} {i : Nat} : Bd K (wbad l i : PR α) := bd_bad
theorem bd_ok {α : Type} {K : Nat} {x : α} {j : Nat} (h : j ≤ K) : Bd K (.ok x j : PR α) := fun x j h => by cases h; assumption
theorem bd_bind {α β : Type} {K : Nat} {p : PR α} {f : α → Nat → PR β} (h : Bd K p) (hf : ∀ x j, j ≤ K → Bd K (f x j)) : Bd K (bindP p f) := by
  cases p with
  | ok x j => exact hf x j (h x j rfl)
  | bad e a w => exact bd_bad
theorem bd_ite {α : Type} {K : Nat} {P : Prop} [Decidable P] {a b : PR α} (ha : Bd K a) (hb : Bd K b) : Bd K (if P then a else b) := by
  split
  · exact ha
  · exact hb
theorem tk_lt {l : List Wd} {K i : Nat} {k : Int} {s : ByteArray} (hE : EndW l K) (hk : k ≠ 0) (hi : i ≤ K) (h : tkW l i k s = true) : i + 1 ≤ K := by
  rcases Nat.lt_or_ge i K with h1 | h1
  · exact h1
  · obtain rfl : i = K := by omega
    obtain ⟨w, hw, h0⟩ := hE
    unfold tkW at h
    rw [hw] at h
    simp only [Bool.and_eq_true, decide_eq_true_eq] at h
    exact absurd (h.1.symm.trans h0) hk
theorem bd_tk {α : Type} {l : List Wd} {K i : Nat} {k : Int} {s : ByteArray} {a b : PR α} (hE : EndW l K) (hk : k ≠ 0) (hi : i ≤ K) (ha : i + 1 ≤ K → Bd K a) (hb : Bd K b) : Bd K (if tkW l i k s = true then a else b) := by
  split
  · rename_i h; exact ha (tk_lt hE hk hi h)
  · exact hb
theorem bd_op {α : Type} {l : List Wd} {K i : Nat} {ops : List ByteArray} {a b : PR α} (hE : EndW l K) (hi : i ≤ K) (ha : i + 1 ≤ K → Bd K a) (hb : Bd K b) : Bd K (if isOp l ops i = true then a else b) := by
  split
  · rename_i h
    simp only [isOp, List.any_eq_true] at h
    obtain ⟨s, _, h⟩ := h
    exact ha (tk_lt hE (by decide) hi h)
  · exact hb
section
variable {l : List Wd} {K : Nat} (hE : EndW l K)
include hE
theorem tLoop_bd {part : Nat → PR Ty} (hp : ∀ i, i ≤ K → Bd K (part i)) (k : Int) (s : ByteArray) : ∀ (n : Nat) (a : Ty) (i : Nat), i ≤ K → Bd K (tLoop l part k s n a i)
  | 0, a, i, hi => bd_ok hi
  | n + 1, a, i, hi => by
    have ih := fun a i hi => tLoop_bd hp k s n a i hi
    unfold tLoop
    repeat' first | with_reducible exact bd_bad | (with_reducible refine bd_ok ?_; omega) | (with_reducible refine bd_wbad) | (with_reducible refine bd_tk hE (by decide) (by omega) (fun hi => ?_) ?_) | (with_reducible refine bd_bind ?_ (fun x j hj => ?_)) | (with_reducible refine bd_op hE (by omega) (fun hi => ?_) ?_) | (with_reducible refine hp _ ?_; omega) | (with_reducible refine ih _ _ ?_; omega) | (with_reducible refine bd_ite ?_ ?_)
theorem tAtom_bd {W : Nat → PR Ty} (hW : ∀ i, i ≤ K → Bd K (W i)) (i : Nat) (hi : i ≤ K) : Bd K (tAtom l W i) := by
  unfold tAtom
  repeat' first | with_reducible exact bd_bad | (with_reducible refine bd_ok ?_; omega) | (with_reducible refine bd_wbad) | (with_reducible refine bd_tk hE (by decide) (by omega) (fun hi => ?_) ?_) | (with_reducible refine bd_bind ?_ (fun x j hj => ?_)) | (with_reducible refine bd_op hE (by omega) (fun hi => ?_) ?_) | (with_reducible refine hW _ ?_; omega) | (with_reducible refine bd_ite ?_ ?_)
theorem tLeft_bd {part : Nat → PR Ty} (hp : ∀ i, i ≤ K → Bd K (part i)) (k : Int) (s : ByteArray) (i : Nat) (hi : i ≤ K) : Bd K (tLeft l part k s i) := by
  unfold tLeft
  exact bd_bind (hp i hi) fun a j hj => tLoop_bd hE hp k s _ a j hj
theorem tWhole_bd : ∀ (n i : Nat), i ≤ K → Bd K (tWhole l n i)
  | 0, i, hi => bd_wbad
  | n + 1, i, hi => by
    have ih := tWhole_bd n
    have hs : ∀ i, i ≤ K → Bd K (tSum l (tWhole l n) i) := fun i hi => tLeft_bd hE (fun i hi => tLeft_bd hE (fun i hi => tAtom_bd hE ih i hi) _ _ i hi) _ _ i hi
    unfold tWhole
    repeat' first | with_reducible exact bd_bad | (with_reducible refine bd_ok ?_; omega) | (with_reducible refine bd_wbad) | (with_reducible refine bd_tk hE (by decide) (by omega) (fun hi => ?_) ?_) | (with_reducible refine bd_bind ?_ (fun x j hj => ?_)) | (with_reducible refine bd_op hE (by omega) (fun hi => ?_) ?_) | (with_reducible refine hs _ ?_; omega) | (with_reducible refine ih _ ?_; omega) | (with_reducible refine bd_ite ?_ ?_)
theorem typP_bd (i : Nat) (hi : i ≤ K) : Bd K (typP l i) := by
  have hw := fun i hi => tWhole_bd hE (l.length + 1) i hi
  unfold typP
  repeat' first | with_reducible exact bd_bad | (with_reducible refine bd_ok ?_; omega) | (with_reducible refine bd_wbad) | (with_reducible refine bd_tk hE (by decide) (by omega) (fun hi => ?_) ?_) | (with_reducible refine bd_bind ?_ (fun x j hj => ?_)) | (with_reducible refine bd_op hE (by omega) (fun hi => ?_) ?_) | (with_reducible refine hw _ ?_; omega) | (with_reducible refine bd_ite ?_ ?_)
theorem mustP_bd (k : Int) (hk : k ≠ 0) (s : ByteArray) (i : Nat) (hi : i ≤ K) : Bd K (mustP l k s i) := by
  unfold mustP
  exact bd_tk hE hk hi (fun h => bd_ok h) bd_wbad
theorem nameP_bd (i : Nat) (hi : i ≤ K) : Bd K (nameP l i) := by
  unfold nameP
  rcases Nat.lt_or_ge i K with h1 | h1
  · split
    · exact bd_ite (bd_ok h1) bd_wbad
    · exact bd_wbad
  · obtain rfl : i = K := by omega
    obtain ⟨w, hw, h0⟩ := hE
    rw [hw]
    simp only
    rw [if_neg (by omega)]
    exact bd_wbad
theorem numP_bd (p : Int) (i : Nat) (hi : i ≤ K) : Bd K (numP l p i) := by
  unfold numP
  rcases Nat.lt_or_ge i K with h1 | h1
  · split
    · exact bd_ite (bd_ok h1) bd_wbad
    · exact bd_wbad
  · obtain rfl : i = K := by omega
    obtain ⟨w, hw, h0⟩ := hE
    rw [hw]
    simp only
    rw [if_neg (by omega)]
    exact bd_wbad
theorem must4_bd (s : ByteArray) (i : Nat) (hi : i ≤ K) : Bd K (mustP l 4 s i) := mustP_bd hE 4 (by decide) s i hi
theorem must3_bd (s : ByteArray) (i : Nat) (hi : i ≤ K) : Bd K (mustP l 3 s i) := mustP_bd hE 3 (by decide) s i hi
theorem annP_bd (i : Nat) (hi : i ≤ K) : Bd K (annP l i) := by
  unfold annP
  repeat' first | with_reducible exact bd_bad | (with_reducible refine bd_ok ?_; omega) | (with_reducible refine bd_wbad) | (with_reducible refine bd_tk hE (by decide) (by omega) (fun hi => ?_) ?_) | (with_reducible refine bd_bind ?_ (fun x j hj => ?_)) | (with_reducible refine bd_op hE (by omega) (fun hi => ?_) ?_) | (with_reducible refine must4_bd hE _ _ ?_; omega) | (with_reducible refine must3_bd hE _ _ ?_; omega) | (with_reducible refine nameP_bd hE _ ?_; omega) | (with_reducible refine typP_bd hE _ ?_; omega) | (with_reducible refine numP_bd hE _ _ ?_; omega) | (with_reducible refine bd_ite ?_ ?_)
theorem isLoop_bd : ∀ (n : Nat) (t : Tm) (i : Nat), i ≤ K → Bd K (isLoop l n t i)
  | 0, t, i, hi => bd_ok hi
  | n + 1, t, i, hi => by
    have ih := isLoop_bd n
    unfold isLoop
    repeat' first | with_reducible exact bd_bad | (with_reducible refine bd_ok ?_; omega) | (with_reducible refine bd_wbad) | (with_reducible refine bd_tk hE (by decide) (by omega) (fun hi => ?_) ?_) | (with_reducible refine bd_bind ?_ (fun x j hj => ?_)) | (with_reducible refine bd_op hE (by omega) (fun hi => ?_) ?_) | (with_reducible refine ih _ _ ?_; omega) | (with_reducible refine must4_bd hE _ _ ?_; omega) | (with_reducible refine must3_bd hE _ _ ?_; omega) | (with_reducible refine nameP_bd hE _ ?_; omega) | (with_reducible refine typP_bd hE _ ?_; omega) | (with_reducible refine numP_bd hE _ _ ?_; omega) | (with_reducible refine bd_ite ?_ ?_)
theorem opP_bd {part : Nat → PR Tm} (hp : ∀ i, i ≤ K → Bd K (part i)) (t : Tm) (i : Nat) (hi : i + 1 ≤ K) : Bd K (opP l part t i) := by
  unfold opP
  exact bd_bind (hp _ hi) fun u j hj => bd_ok hj
theorem opLoop_bd {part : Nat → PR Tm} (hp : ∀ i, i ≤ K → Bd K (part i)) (ops : List ByteArray) : ∀ (n : Nat) (t : Tm) (i : Nat), i ≤ K → Bd K (opLoop l part ops n t i)
  | 0, t, i, hi => bd_ok hi
  | n + 1, t, i, hi => by
    have ih := opLoop_bd hp ops n
    unfold opLoop
    exact bd_op hE hi (fun h => bd_bind (opP_bd hE hp t i h) fun u j hj => ih u j hj) (bd_ok hi)
theorem pAtom_bd {W : Nat → PR Tm} (hW : ∀ i, i ≤ K → Bd K (W i)) (i : Nat) (hi : i ≤ K) : Bd K (pAtom l W i) := by
  unfold pAtom
  split
  · exact bd_wbad
  · rename_i w hw
    have hk : w.kind ≠ 0 → i + 1 ≤ K := fun h => by
      rcases Nat.lt_or_ge i K with h1 | h1
      · exact h1
      · obtain rfl : i = K := by omega
        obtain ⟨w', hw', h0⟩ := hE
        rw [hw] at hw'; cases hw'
        exact absurd h0 h
    by_cases h2 : w.kind = 2
    · rw [if_pos h2]; exact bd_ok (hk (by omega))
    · rw [if_neg h2]
      by_cases h1 : w.kind = 1
      · rw [if_pos h1]; exact bd_ok (hk (by omega))
      · rw [if_neg h1]
        repeat' first | with_reducible exact bd_bad | (with_reducible refine bd_ok ?_; omega) | (with_reducible refine bd_wbad) | (with_reducible refine bd_tk hE (by decide) (by omega) (fun hi => ?_) ?_) | (with_reducible refine bd_bind ?_ (fun x j hj => ?_)) | (with_reducible refine bd_op hE (by omega) (fun hi => ?_) ?_) | (with_reducible refine hW _ ?_; omega) | (with_reducible refine must4_bd hE _ _ ?_; omega) | (with_reducible refine must3_bd hE _ _ ?_; omega) | (with_reducible refine nameP_bd hE _ ?_; omega) | (with_reducible refine typP_bd hE _ ?_; omega) | (with_reducible refine numP_bd hE _ _ ?_; omega) | (with_reducible refine bd_ite ?_ ?_)
theorem appLoop_bd {W : Nat → PR Tm} (hW : ∀ i, i ≤ K → Bd K (W i)) : ∀ (n : Nat) (t : Tm) (i : Nat), i ≤ K → Bd K (appLoop l W n t i)
  | 0, t, i, hi => bd_ok hi
  | n + 1, t, i, hi => by
    have ih := appLoop_bd hW n
    unfold appLoop
    repeat' first | with_reducible exact bd_bad | (with_reducible refine bd_ok ?_; omega) | (with_reducible refine bd_wbad) | (with_reducible refine bd_tk hE (by decide) (by omega) (fun hi => ?_) ?_) | (with_reducible refine bd_bind ?_ (fun x j hj => ?_)) | (with_reducible refine bd_op hE (by omega) (fun hi => ?_) ?_) | (with_reducible refine hW _ ?_; omega) | (with_reducible refine ih _ _ ?_; omega) | (with_reducible refine must4_bd hE _ _ ?_; omega) | (with_reducible refine must3_bd hE _ _ ?_; omega) | (with_reducible refine nameP_bd hE _ ?_; omega) | (with_reducible refine typP_bd hE _ ?_; omega) | (with_reducible refine numP_bd hE _ _ ?_; omega) | (with_reducible refine bd_ite ?_ ?_)
theorem inP_bd {un : Nat → PR Tm} (hu : ∀ i, i ≤ K → Bd K (un i)) (k p : Int) (i : Nat) (hi : i ≤ K) : Bd K (inP l un k p i) := by
  unfold inP
  repeat' first | with_reducible exact bd_bad | (with_reducible refine bd_ok ?_; omega) | (with_reducible refine bd_wbad) | (with_reducible refine bd_tk hE (by decide) (by omega) (fun hi => ?_) ?_) | (with_reducible refine bd_bind ?_ (fun x j hj => ?_)) | (with_reducible refine bd_op hE (by omega) (fun hi => ?_) ?_) | (with_reducible refine hu _ ?_; omega) | (with_reducible refine must4_bd hE _ _ ?_; omega) | (with_reducible refine must3_bd hE _ _ ?_; omega) | (with_reducible refine nameP_bd hE _ ?_; omega) | (with_reducible refine typP_bd hE _ ?_; omega) | (with_reducible refine numP_bd hE _ _ ?_; omega) | (with_reducible refine bd_ite ?_ ?_)
theorem pUn_bd {W : Nat → PR Tm} (hW : ∀ i, i ≤ K → Bd K (W i)) : ∀ (m i : Nat), i ≤ K → Bd K (pUn l W m i)
  | 0, i, hi => bd_wbad
  | m + 1, i, hi => by
    have ih := pUn_bd hW m
    have ha := pAtom_bd hE hW
    have hl := appLoop_bd hE hW
    have hin := inP_bd hE ih
    unfold pUn
    repeat' first | with_reducible exact bd_bad | (with_reducible refine bd_ok ?_; omega) | (with_reducible refine bd_wbad) | (with_reducible refine bd_tk hE (by decide) (by omega) (fun hi => ?_) ?_) | (with_reducible refine bd_bind ?_ (fun x j hj => ?_)) | (with_reducible refine bd_op hE (by omega) (fun hi => ?_) ?_) | (with_reducible refine ih _ ?_; omega) | (with_reducible refine ha _ ?_; omega) | (with_reducible refine hl _ _ _ ?_; omega) | (with_reducible refine hin _ _ _ ?_; omega) | (with_reducible refine must4_bd hE _ _ ?_; omega) | (with_reducible refine must3_bd hE _ _ ?_; omega) | (with_reducible refine nameP_bd hE _ ?_; omega) | (with_reducible refine typP_bd hE _ ?_; omega) | (with_reducible refine numP_bd hE _ _ ?_; omega) | (with_reducible refine bd_ite ?_ ?_)
theorem pIs_bd {W : Nat → PR Tm} (hW : ∀ i, i ≤ K → Bd K (W i)) (i : Nat) (hi : i ≤ K) : Bd K (pIs l W i) := by
  have hu : ∀ i, i ≤ K → Bd K (pU l W i) := fun i hi => pUn_bd hE hW _ i hi
  have hm : ∀ i, i ≤ K → Bd K (pMul l W i) := fun i hi => bd_bind (hu i hi) fun t j hj => opLoop_bd hE hu _ _ t j hj
  have hs : ∀ i, i ≤ K → Bd K (pSum l W i) := fun i hi => bd_bind (hm i hi) fun t j hj => opLoop_bd hE hm _ _ t j hj
  have hc : ∀ i, i ≤ K → Bd K (pCmp l W i) := fun i hi => bd_bind (hs i hi) fun t j hj => bd_op hE hj (fun h => opP_bd hE hs t j h) (bd_ok hj)
  exact bd_bind (hc i hi) fun t j hj => isLoop_bd hE _ t j hj
theorem branchP_bd {W : Nat → PR Tm} (hW : ∀ i, i ≤ K → Bd K (W i)) (i : Nat) (hi : i ≤ K) : Bd K (branchP l W i) := by
  unfold branchP
  repeat' first | with_reducible exact bd_bad | (with_reducible refine bd_ok ?_; omega) | (with_reducible refine bd_wbad) | (with_reducible refine bd_tk hE (by decide) (by omega) (fun hi => ?_) ?_) | (with_reducible refine bd_bind ?_ (fun x j hj => ?_)) | (with_reducible refine bd_op hE (by omega) (fun hi => ?_) ?_) | (with_reducible refine hW _ ?_; omega) | (with_reducible refine must4_bd hE _ _ ?_; omega) | (with_reducible refine must3_bd hE _ _ ?_; omega) | (with_reducible refine nameP_bd hE _ ?_; omega) | (with_reducible refine typP_bd hE _ ?_; omega) | (with_reducible refine numP_bd hE _ _ ?_; omega) | (with_reducible refine bd_ite ?_ ?_)
theorem pStep_bd {W : Nat → PR Tm} (hW : ∀ i, i ≤ K → Bd K (W i)) (i : Nat) (hi : i ≤ K) : Bd K (pStep l W i) := by
  unfold pStep lamP letP ifP recP caseP
  repeat' first | with_reducible exact bd_bad | (with_reducible refine bd_ok ?_; omega) | (with_reducible refine bd_wbad) | (with_reducible refine bd_tk hE (by decide) (by omega) (fun hi => ?_) ?_) | (with_reducible refine bd_bind ?_ (fun x j hj => ?_)) | (with_reducible refine bd_op hE (by omega) (fun hi => ?_) ?_) | (with_reducible refine hW _ ?_; omega) | (with_reducible refine must4_bd hE _ _ ?_; omega) | (with_reducible refine must3_bd hE _ _ ?_; omega) | (with_reducible refine nameP_bd hE _ ?_; omega) | (with_reducible refine typP_bd hE _ ?_; omega) | (with_reducible refine numP_bd hE _ _ ?_; omega) | (with_reducible refine annP_bd hE _ ?_; omega) | (with_reducible refine branchP_bd hE hW _ ?_; omega) | (with_reducible refine pIs_bd hE hW _ ?_; omega) | (with_reducible refine bd_ite ?_ ?_)
theorem pTerm_bd : ∀ (n i : Nat), i ≤ K → Bd K (pTerm l n i)
  | 0, i, hi => bd_wbad
  | n + 1, i, hi => pStep_bd hE (pTerm_bd n) i hi
theorem wordsP_bd : Bd K (wordsP l) := by
  have h := pTerm_bd hE (l.length + 1) 0 (Nat.zero_le _)
  unfold wordsP
  exact bd_bind h fun t j hj => bd_ite bd_bad (bd_ite bd_bad (bd_ok hj))
end
theorem scanL_len : ∀ (n p : Nat) (s : List UInt8) (l : List Wd), scanL n p s = .ok l → l.length ≤ s.length
  | 0, p, s, l, h => by cases h; simp
  | n + 1, p, s, l, h => by
    have ih := scanL_len n
    rw [scanL_skip] at h
    have hk := skipL_le false s
    generalize hq : s.drop (skipL false s) = r at h
    have hr : r.length ≤ s.length := by rw [← hq]; simp
    by_cases hn : r = []
    · subst hn; rw [scanL_nil] at h; cases h; simp
    · rw [scanL_step n _ r (by rw [← hq]; exact skipL_again s false) hn] at h
      split at h
      · cases h
      · rename_i w hw
        obtain ⟨w1, w2, w3⟩ := wordL_ok hw
        split at h
        · cases h
        · rename_i l' hl
          cases h
          have := ih _ _ _ hl
          simp only [List.length_drop] at this
          simp only [List.length_cons]
          omega
theorem scanF_ok {s : ByteArray} {l : List Wd} (h : scanF s = .ok l) : s.size ≤ 65536 ∧ ∃ ws, l = ws ++ [⟨0, s0, 0, s.size⟩] ∧ ws.length ≤ s.size ∧ scanL (s.size + 1) 0 s.data.toList = .ok ws := by
  unfold scanF at h
  split at h
  · cases h
  · rename_i hs
    split at h
    · cases h
    · rename_i ws hws
      cases h
      exact ⟨by omega, ws, rfl, scanL_len _ _ _ _ hws, hws⟩
end Go.Proofs.YtmaokphbfjpodaaDoor.E

/- Walks: bare of terms in the document's answer; Bare, both. No conditions. -/
set_option linter.unusedVariables false
set_option linter.unusedSimpArgs false
namespace Go.Proofs.YtmaokphbfjpodaaDoor.E
open Go

theorem tmcheck_ok {t : Tm} (h : tmcheck t = 0) : tmN t ≤ 8192 ∧ tmright t = true := by
  unfold tmcheck at h
  split at h
  · omega
  · split at h
    · omega
    · split at h
      · rename_i h3; exact ⟨by omega, h3⟩
      · omega
end Go.Proofs.YtmaokphbfjpodaaDoor.E

/- Plain laws: parts of a term that is one. No conditions. -/
set_option linter.unusedVariables false
set_option linter.unusedSimpArgs false
namespace Go.Proofs.YtmaokphbfjpodaaDoor.E
open Go

theorem equal_refl (a : Ty) : equalF a a = true := by
  induction a using Ty.ind with
  | _ k ks ih =>
  have : equalL ks ks = true := (equalL_all ks ks rfl).2 fun j x y hx hy => by
    rw [hx] at hy; cases hy; exact ih x (List.mem_of_getElem? hx)
  simp [equalF, this]
theorem sameS_self {a : Ty} (h : tcheck a = 0) : sameS a a = true := by simp [sameS, h, equal_refl]
end Go.Proofs.YtmaokphbfjpodaaDoor.E

/- Small facts of terms. No conditions. -/
set_option linter.unusedVariables false
set_option linter.unusedSimpArgs false
namespace Go.Proofs.YtmaokphbfjpodaaDoor.E
open Go

theorem tmright_own {k name arg num tk tks uk uks label place ks} (h : tmright (.node k name arg num tk tks uk uks label place ks) = true) : (typeK k = true → tcheck (.node tk tks) = 0) ∧ (toK k = true → tcheck (.node uk uks) = 0) := by
  simp only [tmright, ownRight, Bool.and_eq_true, Bool.or_eq_true, Bool.not_eq_true', decide_eq_true_eq] at h
  refine ⟨fun q => ?_, fun q => ?_⟩
  · rcases h.1.1.1.2 with e | e
    · rw [q] at e; cases e
    · exact e
  · rcases h.1.1.2 with e | e
    · rw [q] at e; cases e
    · exact e
end Go.Proofs.YtmaokphbfjpodaaDoor.E

/- What counts of a term. No conditions. -/
set_option linter.unusedVariables false
set_option linter.unusedSimpArgs false
namespace Go.Proofs.YtmaokphbfjpodaaDoor.E
open Go

/-- A word without its place. -/
structure Tk where
  kind : Int
  text : ByteArray
  num : Int
def Wd.tk (w : Wd) : Tk := ⟨w.kind, w.text, w.num⟩
mutual
/-- What counts of a term, without places. -/
def cl : Tm → Tm
  | .node k name arg num tk tks uk uks label place ks =>
    .node k (if nameK k || decide (k = 15) then name else s0) (if argK k then arg else s0) (if k = 1 then num else 0) (if typeK k then tk else 0) (if typeK k then tks else []) (if toK k then uk else 0) (if toK k then uks else []) (if k = 17 then label else 0) 0 (clL ks)
def clL : List Tm → List Tm
  | [] => []
  | t :: l => cl t :: clL l
end

theorem clL_len : ∀ l : List Tm, (clL l).length = l.length
  | [] => rfl
  | _ :: l => by simp [clL, clL_len l]
mutual
theorem tmN_cl : ∀ t : Tm, tmN (cl t) = tmN t
  | .node k name arg num tk tks uk uks label place ks => by
    have h := tmNL_cl ks
    simp only [cl, tmN, h]
    cases typeK k <;> cases toK k <;> rfl
theorem tmNL_cl : ∀ l : List Tm, tmNL (clL l) = tmNL l
  | [] => rfl
  | t :: l => by simp only [clL, tmNL, tmN_cl t, tmNL_cl l]
end
mutual
theorem tmD_cl : ∀ (t : Tm) (m : Nat), tmD (cl t) m = tmD t m
  | .node k name arg num tk tks uk uks label place ks, m => by
    have h := tmDL_cl ks
    simp only [cl, tmD, h]
    cases typeK k <;> cases toK k <;> rfl
theorem tmDL_cl : ∀ (l : List Tm) (m : Nat), tmDL (clL l) m = tmDL l m
  | [], _ => rfl
  | t :: l, m => by simp only [clL, tmDL, tmD_cl t, tmDL_cl l]
end
mutual
theorem tmright_cl : ∀ t : Tm, tmright (cl t) = tmright t
  | .node k name arg num tk tks uk uks label place ks => by
    have h := tmrights_cl ks
    simp only [cl, tmright, ownRight, h, clL_len]
    by_cases h15 : k = 15
    · subst h15; rfl
    · by_cases h17 : k = 17
      · subst h17; rfl
      · simp only [h15, h17, decide_false, Bool.or_false]
        cases typeK k <;> cases toK k <;> cases nameK k <;> cases argK k <;> rfl
theorem tmrights_cl : ∀ l : List Tm, tmrights (clL l) = tmrights l
  | [] => rfl
  | t :: l => by simp only [clL, tmrights, tmright_cl t, tmrights_cl l]
end
theorem tmcheck_cl (t : Tm) : tmcheck (cl t) = tmcheck t := by
  unfold tmcheck
  rw [tmN_cl, tmD_cl, tmright_cl]
theorem tmDepth_cl (t : Tm) : tmDepth (cl t) = tmDepth t := by
  unfold tmDepth
  rw [tmN_cl, tmD_cl]
theorem tmsame_self (t : Tm) : tmright t = true → tmsame t t = true := by
  induction t using Tm.ind with
  | _ k name arg num tk tks uk uks label place ks ih =>
  intro h
  obtain ⟨o1, o2⟩ := tmright_own h
  have s1 : tmsames ks ks = true := (tmsames_all ks ks rfl).2 fun j x y hx hy => by
    rw [hx] at hy; cases hy
    exact ih x (List.mem_of_getElem? hx) (tmright_kid h (List.mem_of_getElem? hx))
  simp only [tmsame, ownSame, s1]
  cases h1 : typeK k <;> cases h2 : toK k <;> simp_all [sameS_self]
mutual
theorem tmsame_clL : ∀ (a b : Tm), tmsame (cl a) b = tmsame a b
  | .node k name arg num tk tks uk uks label place ks, .node k' name' arg' num' tk' tks' uk' uks' label' place' ks' => by
    have h := tmsames_clL ks ks'
    simp only [cl, tmsame, ownSame, h]
    by_cases h1 : k = 1
    · subst h1; rfl
    · by_cases h15 : k = 15
      · subst h15; rfl
      · by_cases h17 : k = 17
        · subst h17; rfl
        · simp only [h1, h15, h17, decide_false, Bool.or_false]
          cases typeK k <;> cases toK k <;> cases nameK k <;> cases argK k <;> rfl
theorem tmsames_clL : ∀ (l l' : List Tm), tmsames (clL l) l' = tmsames l l'
  | [], _ => rfl
  | _ :: _, [] => rfl
  | a :: l, b :: l' => by simp only [clL, tmsames, tmsame_clL a b, tmsames_clL l l']
end
mutual
theorem tmsame_clR : ∀ (a b : Tm), tmsame a (cl b) = tmsame a b
  | .node k name arg num tk tks uk uks label place ks, .node k' name' arg' num' tk' tks' uk' uks' label' place' ks' => by
    have h := tmsames_clR ks ks'
    simp only [cl, tmsame, ownSame, h]
    by_cases e : k = k'
    · subst e
      by_cases h1 : k = 1
      · subst h1; rfl
      · by_cases h15 : k = 15
        · subst h15; rfl
        · by_cases h17 : k = 17
          · subst h17; rfl
          · simp only [h1, h15, h17, decide_false, Bool.or_false]
            cases typeK k <;> cases toK k <;> cases nameK k <;> cases argK k <;> rfl
    · simp [e]
theorem tmsames_clR : ∀ (l l' : List Tm), tmsames l (clL l') = tmsames l l'
  | [], _ => rfl
  | _ :: _, [] => rfl
  | a :: l, b :: l' => by simp only [clL, tmsames, tmsame_clR a b, tmsames_clR l l']
end
/-- Terms of which the same counts are the same. -/
theorem sameT_cl {a b : Tm} (h : tmcheck a = 0) (e : cl b = cl a) : sameT a b = true := by
  have hb : tmcheck b = 0 := by rw [← tmcheck_cl, e, tmcheck_cl, h]
  have hs : tmsame a b = true := by rw [← tmsame_clL, ← tmsame_clR, e, tmsame_clL, tmsame_clR]; exact tmsame_self a (tmcheck_ok h).2
  unfold sameT
  rw [h, hb, hs]
  rfl
end Go.Proofs.YtmaokphbfjpodaaDoor.E

/- The scanner on a text with other blanks, and on one that is cut; in plain Lean. No conditions. -/
set_option linter.unusedVariables false
set_option linter.unusedSimpArgs false
namespace Go.Proofs.YtmaokphbfjpodaaDoor.E
open Go

theorem spanL_zero {b : Bool} {s : List UInt8} : spanL b s = 0 ↔ ∀ c a, s = c :: a → (digitF c.toNat || (b && letterF c.toNat)) = false := by
  cases s with
  | nil => simp [spanL]
  | cons c a =>
    rw [spanL]
    constructor
    · intro h c' a' e
      cases e
      cases hq : (digitF c.toNat || (b && letterF c.toNat)) with
      | false => rfl
      | true => rw [if_pos hq] at h; omega
    · intro h
      rw [if_neg (by rw [h c a rfl]; decide)]
theorem spanL_munch (b : Bool) : ∀ l : List UInt8, spanL b (l.drop (spanL b l)) = 0
  | [] => by simp [spanL]
  | c :: l => by
    by_cases h : (digitF c.toNat || (b && letterF c.toNat)) = true
    · rw [show spanL b (c :: l) = spanL b l + 1 by rw [spanL, if_pos h]; omega, List.drop_succ_cons]
      exact spanL_munch b l
    · rw [show spanL b (c :: l) = 0 by rw [spanL, if_neg h], List.drop_zero, spanL, if_neg h]
/-- What may stand behind a word instead: nothing, the same, or a blank. -/
def Nxt (r s : List UInt8) : Prop := s = [] ∨ (∃ c a b, r = c :: a ∧ s = c :: b) ∨ ∃ c a, s = c :: a ∧ (c = 32 ∨ c = 9 ∨ c = 10 ∨ c = 13)
theorem Nxt.span {r s : List UInt8} (h : Nxt r s) {b : Bool} (h0 : spanL b r = 0) : spanL b s = 0 := by
  rw [spanL_zero] at h0 ⊢
  intro c a e
  rcases h with rfl | ⟨c', a', b', h1, h2⟩ | ⟨c', a', h1, h2⟩
  · cases e
  · rw [h2] at e; cases e; exact h0 c _ h1
  · rw [h1] at e; cases e
    rcases h2 with rfl | rfl | rfl | rfl <;> cases b <;> decide
theorem Nxt.ne {r s : List UInt8} (h : Nxt r s) (h0 : ∀ q, r ≠ 62 :: q) : ∀ q, s ≠ 62 :: q := by
  intro q e
  rcases h with rfl | ⟨c', a', b', h1, h2⟩ | ⟨c', a', h1, h2⟩
  · cases e
  · rw [h2] at e; cases e; exact h0 _ h1
  · rw [h1] at e; cases e
    rcases h2 with h | h | h | h <;> cases h
theorem next_span {s : List UInt8} (h : spanL true s = 0) : nextLetter s = false := by
  cases s with
  | nil => rfl
  | cons c a =>
    have := spanL_zero.1 h c a rfl
    simp only [Bool.true_and, Bool.or_eq_false_iff] at this
    exact this.2
/-- A word that stands ahead of something else is the same word. -/
theorem wordL_again {p : Nat} {l : List UInt8} {w : Wd} (h : wordL p l = .ok w) {s : List UInt8} (hs : Nxt (l.drop w.text.size) s) (p' : Nat) : wordL p' (w.text.data.toList ++ s) = .ok ⟨w.kind, w.text, w.num, p'⟩ ∧ l.take w.text.size = w.text.data.toList := by
  have hsz := wordL_ok h
  cases l with
  | nil => cases h
  | cons c l =>
    have hz : ∀ n, n ≤ (c :: l).length → (ByteArray.mk ((c :: l).take n).toArray).size = n := fun n hn => by
      show ((c :: l).take n).toArray.size = n
      simp at hn ⊢; omega
    by_cases h1 : letterF c.toNat = true
    · have hle := spanL_le true (c :: l)
      have hpos : 1 ≤ spanL true (c :: l) := by rw [spanL, if_pos (by rw [h1]; simp)]; omega
      have hall := spanL_all true (c :: l)
      have hmu := spanL_munch true (c :: l)
      rw [wordL_letter h1] at h
      generalize hn : spanL true (c :: l) = n at h hle hpos hall hmu
      have key : ∀ k, w = ⟨k, ⟨((c :: l).take n).toArray⟩, 0, p⟩ → (((c :: l).take n).toArray.size > 64 → False) → (k = if keyF ⟨((c :: l).take n).toArray⟩ = true then 3 else 1) → wordL p' (w.text.data.toList ++ s) = .ok ⟨w.kind, w.text, w.num, p'⟩ ∧ (c :: l).take w.text.size = w.text.data.toList := by
        intro k hw h64 hk
        subst hw
        simp only at hs ⊢
        rw [hz n hle] at hs ⊢
        refine ⟨?_, rfl⟩
        have e : (⟨((c :: l).take n).toArray⟩ : ByteArray).data.toList = c :: l.take (n - 1) := by
          rw [show n = (n - 1) + 1 by omega]; rfl
        have hsp : spanL true ((c :: l).take n ++ s) = n := by
          rw [spanL_app true _ s hall (hs.span hmu)]; simp at hle ⊢; omega
        have e2 : (c :: l).take n ++ s = c :: (l.take (n - 1) ++ s) := by rw [show n = (n - 1) + 1 by omega]; rfl
        have e3 : ((c :: l).take n ++ s).take n = (c :: l).take n := by
          have : ((c :: l).take n).length = n := by simp at hle ⊢; omega
          conv => lhs; rw [← this]
          simp
        show wordL p' ((c :: l).take n ++ s) = _
        rw [e2, wordL_letter h1, ← e2, hsp, e3, if_neg h64, hk]
        split <;> rfl
      split at h
      · cases h
      · rename_i h64
        split at h
        · rename_i hk; exact key 3 (by cases h; rfl) h64 (by rw [if_pos hk])
        · rename_i hk; exact key 1 (by cases h; rfl) h64 (by rw [if_neg hk])
    · have h1 : letterF c.toNat = false := by simpa using h1
      by_cases h2 : digitF c.toNat = true
      · have hle := spanL_le false (c :: l)
        have hpos : 1 ≤ spanL false (c :: l) := by rw [spanL, if_pos (by rw [h2]; rfl)]; omega
        have hall := spanL_all false (c :: l)
        have hmu := spanL_munch false (c :: l)
        rw [wordL_digit h1 h2] at h
        generalize hn : spanL false (c :: l) = n at h hle hpos hall hmu
        split at h
        · cases h
        · rename_i v hv
          have hcond : ¬ ((n > 1 ∧ c = 48) ∨ nextLetter ((c :: l).drop n) = true) := fun q => by rw [if_pos q] at h; cases h
          have hw := ite_ok h
          subst hw
          simp only at hs ⊢
          rw [hz n hle] at hs ⊢
          refine ⟨?_, rfl⟩
          have hr0 : spanL true ((c :: l).drop n) = 0 := by
            rw [spanL_zero] at hmu ⊢
            intro d a e
            have q1 := hmu d a e
            have q2 : nextLetter ((c :: l).drop n) = false := by simpa using fun q => hcond (.inr q)
            rw [e] at q2
            simp only [Bool.false_and, Bool.or_false] at q1
            rw [q1, show letterF d.toNat = false from q2]; rfl
          have hs0 := hs.span hr0
          have hsF : spanL false s = 0 := by
            rw [spanL_zero] at hs0 ⊢
            intro d a e
            have := hs0 d a e
            simp only [Bool.true_and, Bool.or_eq_false_iff] at this
            rw [this.1]; rfl
          have hsp : spanL false ((c :: l).take n ++ s) = n := by
            rw [spanL_app false _ s hall hsF]; simp at hle ⊢; omega
          have hlen : ((c :: l).take n).length = n := by simp at hle ⊢; omega
          have e2 : (c :: l).take n ++ s = c :: (l.take (n - 1) ++ s) := by rw [show n = (n - 1) + 1 by omega]; rfl
          have e3 : ((c :: l).take n ++ s).take n = (c :: l).take n := by
            conv => lhs; rw [← hlen]
            simp
          have e4 : ((c :: l).take n ++ s).drop n = s := by
            conv => lhs; rw [← hlen]
            simp
          show wordL p' ((c :: l).take n ++ s) = _
          rw [e2, wordL_digit h1 h2, ← e2, hsp, e3, e4, hv]
          simp only
          rw [if_neg]
          rintro (q | q)
          · exact hcond (.inl q)
          · rw [next_span hs0] at q; cases q
      · have h2 : digitF c.toNat = false := by simpa using h2
        by_cases h45 : c = 45
        · subst h45
          cases l with
          | nil =>
            have e : wordL p [45] = .ok ⟨4, ⟨#[45]⟩, 0, p⟩ := rfl
            rw [e] at h; cases h
            exact ⟨wordL_dash (hs.ne (by intro q e; cases e)), rfl⟩
          | cons d r =>
            by_cases h62 : d = 62
            · subst h62
              have e : wordL p (45 :: 62 :: r) = .ok ⟨4, ⟨#[45, 62]⟩, 0, p⟩ := rfl
              rw [e] at h; cases h
              exact ⟨rfl, rfl⟩
            · have e : wordL p (45 :: d :: r) = .ok ⟨4, ⟨#[45]⟩, 0, p⟩ := wordL_dash fun q e => h62 (List.cons.inj e).1
              rw [e] at h; cases h
              exact ⟨wordL_dash (hs.ne (by intro q e; exact h62 (List.cons.inj e).1)), rfl⟩
        · by_cases hm : c ∈ signsF
          · rw [wordL_sign h1 h2 h45 hm] at h
            cases h
            exact ⟨wordL_sign h1 h2 h45 hm, rfl⟩
          · rw [wordL_none h1 h2 h45 hm] at h; cases h
end Go.Proofs.YtmaokphbfjpodaaDoor.E
