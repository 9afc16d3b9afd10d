/- Texts, merged: Pl1, Pq5, Pm4, Pl2, Pl3, Pl4, Pq6, Pq7. No conditions. -/
import Derived.Test.YtmaokphbfjpodaaGreatDoorGenX8
import Derived.Test.YtmaokphbfjpodaaGreatDoorGenX9
import Derived.Test.YtmaokphbfjpodaaGreatDoorGenX10
import Derived.Test.YtmaokphbfjpodaaGreatDoorGenX7
/- The scanner on a text with other blanks, and on one that is cut; in plain Lean. No conditions. -/
set_option linter.unusedVariables false
set_option linter.unusedSimpArgs false
namespace Go.Proofs.YtmaokphbfjpodaaGreatDoor.E
open Go

theorem spanL_zero {b : Bool} {s : List UInt8} : spanL b s = 0 ↔ ∀ c a, s = c :: a → (digitF c.toNat || (b && letterF c.toNat)) = false := by
  cases s with
  | nil => simp [spanL]
  | cons c a =>
    rw [spanL]
    constructor
    · intro h c' a' e
      cases e
      cases hq : (digitF c.toNat || (b && letterF c.toNat)) with
      | false => rfl
      | true => rw [if_pos hq] at h; omega
    · intro h
      rw [if_neg (by rw [h c a rfl]; decide)]
theorem spanL_munch (b : Bool) : ∀ l : List UInt8, spanL b (l.drop (spanL b l)) = 0
  | [] => by simp [spanL]
  | c :: l => by
    by_cases h : (digitF c.toNat || (b && letterF c.toNat)) = true
    · rw [show spanL b (c :: l) = spanL b l + 1 by rw [spanL, if_pos h]; omega, List.drop_succ_cons]
      exact spanL_munch b l
    · rw [show spanL b (c :: l) = 0 by rw [spanL, if_neg h], List.drop_zero, spanL, if_neg h]
/-- What may stand behind a word instead: nothing, the same, or a blank. -/
def Nxt (r s : List UInt8) : Prop := s = [] ∨ (∃ c a b, r = c :: a ∧ s = c :: b) ∨ ∃ c a, s = c :: a ∧ (c = 32 ∨ c = 9 ∨ c = 10 ∨ c = 13)
theorem Nxt.span {r s : List UInt8} (h : Nxt r s) {b : Bool} (h0 : spanL b r = 0) : spanL b s = 0 := by
  rw [spanL_zero] at h0 ⊢
  intro c a e
  rcases h with rfl | ⟨c', a', b', h1, h2⟩ | ⟨c', a', h1, h2⟩
  · cases e
  · rw [h2] at e; cases e; exact h0 c _ h1
  · rw [h1] at e; cases e
    rcases h2 with rfl | rfl | rfl | rfl <;> cases b <;> decide
theorem Nxt.ne {r s : List UInt8} (h : Nxt r s) (h0 : ∀ q, r ≠ 62 :: q) : ∀ q, s ≠ 62 :: q := by
  intro q e
  rcases h with rfl | ⟨c', a', b', h1, h2⟩ | ⟨c', a', h1, h2⟩
  · cases e
  · rw [h2] at e; cases e; exact h0 _ h1
  · rw [h1] at e; cases e
    rcases h2 with h | h | h | h <;> cases h
theorem next_span {s : List UInt8} (h : spanL true s = 0) : nextLetter s = false := by
  cases s with
  | nil => rfl
  | cons c a =>
    have := spanL_zero.1 h c a rfl
    simp only [Bool.true_and, Bool.or_eq_false_iff] at this
    exact this.2
/-- A word that stands ahead of something else is the same word. -/
theorem wordL_again {p : Nat} {l : List UInt8} {w : Wd} (h : wordL p l = .ok w) {s : List UInt8} (hs : Nxt (l.drop w.text.size) s) (p' : Nat) : wordL p' (w.text.data.toList ++ s) = .ok ⟨w.kind, w.text, w.num, p'⟩ ∧ l.take w.text.size = w.text.data.toList := by
  have hsz := wordL_ok h
  cases l with
  | nil => cases h
  | cons c l =>
    have hz : ∀ n, n ≤ (c :: l).length → (ByteArray.mk ((c :: l).take n).toArray).size = n := fun n hn => by
      show ((c :: l).take n).toArray.size = n
      simp at hn ⊢; omega
    by_cases h1 : letterF c.toNat = true
    · have hle := spanL_le true (c :: l)
      have hpos : 1 ≤ spanL true (c :: l) := by rw [spanL, if_pos (by rw [h1]; simp)]; omega
      have hall := spanL_all true (c :: l)
      have hmu := spanL_munch true (c :: l)
      rw [wordL_letter h1] at h
      generalize hn : spanL true (c :: l) = n at h hle hpos hall hmu
      have key : ∀ k, w = ⟨k, ⟨((c :: l).take n).toArray⟩, 0, p⟩ → (((c :: l).take n).toArray.size > 64 → False) → (k = if keyF ⟨((c :: l).take n).toArray⟩ = true then 3 else 1) → wordL p' (w.text.data.toList ++ s) = .ok ⟨w.kind, w.text, w.num, p'⟩ ∧ (c :: l).take w.text.size = w.text.data.toList := by
        intro k hw h64 hk
        subst hw
        simp only at hs ⊢
        rw [hz n hle] at hs ⊢
        refine ⟨?_, rfl⟩
        have e : (⟨((c :: l).take n).toArray⟩ : ByteArray).data.toList = c :: l.take (n - 1) := by
          rw [show n = (n - 1) + 1 by omega]; rfl
        have hsp : spanL true ((c :: l).take n ++ s) = n := by
          rw [spanL_app true _ s hall (hs.span hmu)]; simp at hle ⊢; omega
        have e2 : (c :: l).take n ++ s = c :: (l.take (n - 1) ++ s) := by rw [show n = (n - 1) + 1 by omega]; rfl
        have e3 : ((c :: l).take n ++ s).take n = (c :: l).take n := by
          have : ((c :: l).take n).length = n := by simp at hle ⊢; omega
          conv => lhs; rw [← this]
          simp
        show wordL p' ((c :: l).take n ++ s) = _
        rw [e2, wordL_letter h1, ← e2, hsp, e3, if_neg h64, hk]
        split <;> rfl
      split at h
      · cases h
      · rename_i h64
        split at h
        · rename_i hk; exact key 3 (by cases h; rfl) h64 (by rw [if_pos hk])
        · rename_i hk; exact key 1 (by cases h; rfl) h64 (by rw [if_neg hk])
    · have h1 : letterF c.toNat = false := by simpa using h1
      by_cases h2 : digitF c.toNat = true
      · have hle := spanL_le false (c :: l)
        have hpos : 1 ≤ spanL false (c :: l) := by rw [spanL, if_pos (by rw [h2]; rfl)]; omega
        have hall := spanL_all false (c :: l)
        have hmu := spanL_munch false (c :: l)
        rw [wordL_digit h1 h2] at h
        generalize hn : spanL false (c :: l) = n at h hle hpos hall hmu
        split at h
        · cases h
        · rename_i v hv
          have hcond : ¬ ((n > 1 ∧ c = 48) ∨ nextLetter ((c :: l).drop n) = true) := fun q => by rw [if_pos q] at h; cases h
          have hw := ite_ok h
          subst hw
          simp only at hs ⊢
          rw [hz n hle] at hs ⊢
          refine ⟨?_, rfl⟩
          have hr0 : spanL true ((c :: l).drop n) = 0 := by
            rw [spanL_zero] at hmu ⊢
            intro d a e
            have q1 := hmu d a e
            have q2 : nextLetter ((c :: l).drop n) = false := by simpa using fun q => hcond (.inr q)
            rw [e] at q2
            simp only [Bool.false_and, Bool.or_false] at q1
            rw [q1, show letterF d.toNat = false from q2]; rfl
          have hs0 := hs.span hr0
          have hsF : spanL false s = 0 := by
            rw [spanL_zero] at hs0 ⊢
            intro d a e
            have := hs0 d a e
            simp only [Bool.true_and, Bool.or_eq_false_iff] at this
            rw [this.1]; rfl
          have hsp : spanL false ((c :: l).take n ++ s) = n := by
            rw [spanL_app false _ s hall hsF]; simp at hle ⊢; omega
          have hlen : ((c :: l).take n).length = n := by simp at hle ⊢; omega
          have e2 : (c :: l).take n ++ s = c :: (l.take (n - 1) ++ s) := by rw [show n = (n - 1) + 1 by omega]; rfl
          have e3 : ((c :: l).take n ++ s).take n = (c :: l).take n := by
            conv => lhs; rw [← hlen]
            simp
          have e4 : ((c :: l).take n ++ s).drop n = s := by
            conv => lhs; rw [← hlen]
            simp
          show wordL p' ((c :: l).take n ++ s) = _
          rw [e2, wordL_digit h1 h2, ← e2, hsp, e3, e4, hv]
          simp only
          rw [if_neg]
          rintro (q | q)
          · exact hcond (.inl q)
          · rw [next_span hs0] at q; cases q
      · have h2 : digitF c.toNat = false := by simpa using h2
        by_cases h45 : c = 45
        · subst h45
          cases l with
          | nil =>
            have e : wordL p [45] = .ok ⟨4, ⟨#[45]⟩, 0, p⟩ := rfl
            rw [e] at h; cases h
            exact ⟨wordL_dash (hs.ne (by intro q e; cases e)), rfl⟩
          | cons d r =>
            by_cases h62 : d = 62
            · subst h62
              have e : wordL p (45 :: 62 :: r) = .ok ⟨4, ⟨#[45, 62]⟩, 0, p⟩ := rfl
              rw [e] at h; cases h
              exact ⟨rfl, rfl⟩
            · have e : wordL p (45 :: d :: r) = .ok ⟨4, ⟨#[45]⟩, 0, p⟩ := wordL_dash fun q e => h62 (List.cons.inj e).1
              rw [e] at h; cases h
              exact ⟨wordL_dash (hs.ne (by intro q e; exact h62 (List.cons.inj e).1)), rfl⟩
        · by_cases hm : c ∈ signsF
          · rw [wordL_sign h1 h2 h45 hm] at h
            cases h
            exact ⟨wordL_sign h1 h2 h45 hm, rfl⟩
          · rw [wordL_none h1 h2 h45 hm] at h; cases h
end Go.Proofs.YtmaokphbfjpodaaGreatDoor.E

/- Words stand at their places, one behind the other. No conditions. -/
set_option linter.unusedVariables false
set_option linter.unusedSimpArgs false
namespace Go.Proofs.YtmaokphbfjpodaaGreatDoor.E
open Go

theorem scan_at : ∀ (n p : Nat) (s : List UInt8) (ws : List Wd), scanL n p s = .ok ws → ∀ (q : Nat) (w : Wd), ws[q]? = some w → ∃ m, w.place = ((p + m : Nat) : Int) ∧ m + w.text.size ≤ s.length ∧ 1 ≤ w.text.size ∧ (s.drop m).take w.text.size = w.text.data.toList
  | 0, p, s, ws, h, q, w, hq => by cases h; simp at hq
  | n + 1, p, s, ws, h, q, w, hq => by
    rw [scanL_skip] at h
    have hkl := skipL_le false s
    by_cases hr : s.drop (skipL false s) = []
    · rw [hr, scanL_nil] at h; cases h; simp at hq
    · have hag := skipL_again s false
      rw [scanL_step n _ _ hag hr] at h
      split at h
      · cases h
      · rename_i v hv
        split at h
        · cases h
        · rename_i l' hl
          cases h
          obtain ⟨z1, z2, z3⟩ := wordL_ok hv
          simp only [List.length_drop] at z2
          cases q with
          | zero =>
            simp at hq
            subst hq
            exact ⟨skipL false s, z3, by omega, z1, (wordL_again hv (s := []) (.inl rfl) 0).2⟩
          | succ q =>
            rw [List.getElem?_cons_succ] at hq
            obtain ⟨m, a1, a2, a3, a4⟩ := scan_at n _ _ _ hl q w hq
            simp only [List.length_drop] at a2
            refine ⟨skipL false s + v.text.size + m, by rw [a1]; congr 1; omega, by omega, a3, ?_⟩
            rw [List.drop_drop, List.drop_drop] at a4
            rw [← a4]; congr 2; omega
theorem scan_inc : ∀ (n p : Nat) (s : List UInt8) (ws : List Wd), scanL n p s = .ok ws → ∀ (q q' : Nat) (w w' : Wd), q < q' → ws[q]? = some w → ws[q']? = some w' → w.place + w.text.size ≤ w'.place
  | 0, p, s, ws, h, q, q', w, w', hlt, hq, hq' => by cases h; simp at hq
  | n + 1, p, s, ws, h, q, q', w, w', hlt, hq, hq' => by
    rw [scanL_skip] at h
    by_cases hr : s.drop (skipL false s) = []
    · rw [hr, scanL_nil] at h; cases h; simp at hq
    · have hag := skipL_again s false
      rw [scanL_step n _ _ hag hr] at h
      split at h
      · cases h
      · rename_i v hv
        split at h
        · cases h
        · rename_i l' hl
          cases h
          obtain ⟨z1, z2, z3⟩ := wordL_ok hv
          obtain ⟨q', rfl⟩ : ∃ r, q' = r + 1 := ⟨q' - 1, by omega⟩
          rw [List.getElem?_cons_succ] at hq'
          cases q with
          | zero =>
            simp at hq
            subst hq
            obtain ⟨m, a1, _⟩ := scan_at n _ _ _ hl q' w' hq'
            rw [a1, z3]; omega
          | succ q =>
            rw [List.getElem?_cons_succ] at hq
            exact scan_inc n _ _ _ hl q q' w w' (by omega) hq hq'
end Go.Proofs.YtmaokphbfjpodaaGreatDoor.E

/- What is read of a text is a term, in plain Lean. No conditions. -/
set_option linter.unusedVariables false
set_option linter.unusedSimpArgs false
namespace Go.Proofs.YtmaokphbfjpodaaGreatDoor.E
open Go

theorem numL_le : ∀ (l : List UInt8) (n v : Nat), n ≤ 9223372036854775807 → numL n l = some v → v ≤ 9223372036854775807
  | [], n, v, hn, h => by simp [numL] at h; omega
  | c :: l, n, v, hn, h => by
    rw [numL] at h
    split at h
    · cases h
    · rename_i hc
      have := c.toNat_lt
      exact numL_le l _ v (by omega) h
theorem bytesF_of {w : ByteArray} : ∀ n, n ≤ w.size → (∀ d ∈ w.data.toList.take n, nbF (d.toNat : Nat) = true) → bytesF w n = true
  | 0, _, _ => rfl
  | n + 1, hn, h => by
    have hlt : n < w.data.toList.length := hn
    rw [List.take_succ_eq_append_getElem hlt] at h
    simp only [bytesF, Bool.and_eq_true]
    refine ⟨bytesF_of n (by omega) fun d hd => h d (List.mem_append.2 (.inl hd)), ?_⟩
    have := h _ (List.mem_append.2 (.inr (List.mem_singleton.2 rfl)))
    unfold byteAt
    rw [show ((n : Nat) : Int).toNat = n from rfl, List.getElem?_eq_getElem hlt]
    exact this
theorem letter_not_digit {c : Int} (h : letterF c = true) : digitF c = false := by
  simp only [letterF, Bool.or_eq_true, Bool.and_eq_true, decide_eq_true_eq] at h
  simp only [digitF, Bool.and_eq_false_iff, decide_eq_false_iff_not]
  omega
theorem wordL_wok {p : Nat} {l : List UInt8} {w : Wd} (h : wordL p l = .ok w) : (w.kind = 1 → nameF w.text = true) ∧ (w.kind = 2 → 0 ≤ w.num ∧ w.num ≤ 9223372036854775807) := by
  have hsz := wordL_ok h
  cases l with
  | nil => cases h
  | cons c l =>
    by_cases h1 : letterF c.toNat = true
    · rw [wordL_letter h1] at h
      have hpos : 1 ≤ spanL true (c :: l) := by rw [spanL, if_pos (by rw [h1]; simp)]; omega
      have hall := spanL_all true (c :: l)
      generalize hn : spanL true (c :: l) = n at h hpos hall
      obtain ⟨n, rfl⟩ : ∃ q, n = q + 1 := ⟨n - 1, by omega⟩
      split at h
      · cases h
      · rename_i h64
        split at h
        · cases h; exact ⟨fun q => by simp at q, fun q => by simp at q⟩
        · rename_i hk
          cases h
          refine ⟨fun _ => ?_, fun q => by simp at q⟩
          have e : (⟨((c :: l).take (n + 1)).toArray⟩ : ByteArray).data.toList = c :: l.take n := rfl
          simp only [nameF, Bool.and_eq_true, Bool.not_eq_true', decide_eq_true_eq, decide_eq_false_iff_not]
          refine ⟨⟨⟨⟨fun q => ?_, ?_⟩, by simpa using hk⟩, ?_⟩, ?_⟩
          · have := congrArg (fun b : ByteArray => b.data.toList) q
            rw [e] at this; cases this
          · have : (⟨((c :: l).take (n + 1)).toArray⟩ : ByteArray).size = ((c :: l).take (n + 1)).toArray.size := rfl
            rw [this]; omega
          · rw [byteAt_list e]; exact letter_not_digit h1
          · refine bytesF_of _ (Nat.le_refl _) fun d hd => ?_
            have := hall d (List.mem_of_mem_take hd)
            unfold nbF; rw [Bool.or_comm]; simpa using this
    · have h1 : letterF c.toNat = false := by simpa using h1
      by_cases h2 : digitF c.toNat = true
      · rw [wordL_digit h1 h2] at h
        split at h
        · cases h
        · rename_i v hv
          have e := ite_ok h
          subst e
          refine ⟨fun q => by simp at q, fun _ => ?_⟩
          have := numL_le _ 0 v (by decide) hv
          simp only
          omega
      · have h2 : digitF c.toNat = false := by simpa using h2
        unfold wordL at h
        simp only at h
        rw [if_neg (by rw [h1]; decide), if_neg (by rw [h2]; decide)] at h
        split at h
        · split at h <;> (cases h; exact ⟨fun q => by simp at q, fun q => by simp at q⟩)
        · split at h
          · cases h; exact ⟨fun q => by simp at q, fun q => by simp at q⟩
          · cases h
theorem scanL_wok : ∀ (n p : Nat) (s : List UInt8) (l : List Wd), scanL n p s = .ok l → WsOk l
  | 0, p, s, l, h => by cases h; intro w hw; simp at hw
  | n + 1, p, s, l, h => by
    rw [scanL_skip] at h
    generalize hq : s.drop (skipL false s) = r at h
    by_cases hn : r = []
    · subst hn; rw [scanL_nil] at h; cases h; intro w hw; simp at hw
    · rw [scanL_step n _ r (by rw [← hq]; exact skipL_again s false) hn] at h
      split at h
      · cases h
      · rename_i w hw
        split at h
        · cases h
        · rename_i l' hl
          cases h
          have ih := scanL_wok n _ _ _ hl
          intro x hx
          rcases List.mem_cons.1 hx with rfl | hx
          · exact wordL_wok hw
          · exact ih x hx
theorem scanF_wok {s : ByteArray} {l : List Wd} (h : scanF s = .ok l) : WsOk l := by
  obtain ⟨_, ws, rfl, _, h2⟩ := scanF_ok h
  have := scanL_wok _ _ _ _ h2
  intro w hw
  rcases List.mem_append.1 hw with hw | hw
  · exact this w hw
  · rw [List.mem_singleton] at hw
    subst hw
    exact ⟨fun q => absurd q (show ¬ (0 : Int) = 1 by decide), fun q => absurd q (show ¬ (0 : Int) = 2 by decide)⟩
/-- What is read is a term. -/
theorem read_good {s : ByteArray} {t : Tm} (h : readF s = .ok t) : tmcheck t = 0 ∧ tmInR t ∧ tmBad t = false := by
  unfold readF at h
  split at h
  · cases h
  · rename_i l hl
    split at h
    · cases h
    · rename_i t' j hw
      have ht : t' = t := by
        split at h
        · rename_i w hwj
          by_cases hk : w.kind = 0
          · rw [if_pos hk] at h; cases h; rfl
          · rw [if_neg hk] at h; cases h
        · cases h
      subst ht
      unfold wordsP at hw
      cases hp : pTerm l (l.length + 1) 0 with
      | bad e a w => rw [hp] at hw; cases hw
      | ok u q =>
        rw [hp, bindP_ok] at hw
        have hg := pTerm_gd (scanF_wok hl) (l.length + 1) 0 u q hp
        split at hw
        · cases hw
        · rename_i h1
          split at hw
          · cases hw
          · rename_i h2
            cases hw
            exact ⟨by rw [tmcheck_eq, if_neg h1, if_neg h2, if_pos hg.1], hg.2.1, hg.2.2⟩
end Go.Proofs.YtmaokphbfjpodaaGreatDoor.E

/- Words at other places are read as the same, but for places; in plain Lean. No conditions. -/
set_option linter.unusedVariables false
set_option linter.unusedSimpArgs false
set_option linter.unusedSectionVars false
namespace Go.Proofs.YtmaokphbfjpodaaGreatDoor.E
open Go

def SameW (l l' : List Wd) : Prop := l.map Wd.tk = l'.map Wd.tk
theorem SameW.len {l l' : List Wd} (h : SameW l l') : l.length = l'.length := by have := congrArg List.length h; simpa using this
theorem SameW.get {l l' : List Wd} (h : SameW l l') (i : Nat) : (l[i]?).map Wd.tk = (l'[i]?).map Wd.tk := by
  have := congrArg (fun x => x[i]?) h
  simpa only [List.getElem?_map] using this
theorem SameW.tk {l l' : List Wd} (h : SameW l l') (i : Nat) (k : Int) (s : ByteArray) : tkW l i k s = tkW l' i k s := by
  have := h.get i
  unfold tkW
  cases h1 : l[i]? with
  | none => cases h2 : l'[i]? with
    | none => rfl
    | some w' => rw [h1, h2] at this; cases this
  | some w => cases h2 : l'[i]? with
    | none => rw [h1, h2] at this; cases this
    | some w' =>
      rw [h1, h2] at this
      have e : w.tk = w'.tk := by simpa using this
      have e1 : w.kind = w'.kind := congrArg Tk.kind e
      have e2 : w.text = w'.text := congrArg Tk.text e
      simp only [e1, e2]
theorem SameW.op {l l' : List Wd} (h : SameW l l') (ops : List ByteArray) (i : Nat) : isOp l ops i = isOp l' ops i := by
  unfold isOp
  simp only [h.tk]
theorem SameW.text {l l' : List Wd} (h : SameW l l') (i : Nat) : textW l i = textW l' i := by
  have := h.get i
  unfold textW
  cases h1 : l[i]? with
  | none => cases h2 : l'[i]? with
    | none => rfl
    | some w' => rw [h1, h2] at this; cases this
  | some w => cases h2 : l'[i]? with
    | none => rw [h1, h2] at this; cases this
    | some w' =>
      rw [h1, h2] at this
      have e : w.tk = w'.tk := by simpa using this
      exact congrArg Tk.text e
section
variable {l l' : List Wd} (h : SameW l l')
include h
end
end Go.Proofs.YtmaokphbfjpodaaGreatDoor.E

/- A list of words that is cut is taken, or refused at its end, or where the whole one is; in plain Lean. No conditions. -/
set_option linter.unusedVariables false
set_option linter.unusedSimpArgs false
set_option linter.unusedSectionVars false
namespace Go.Proofs.YtmaokphbfjpodaaGreatDoor.E
open Go

/-- At the cut: it ends there, or it is refused there, or for its size. -/
def EndC {α : Type} (K : Nat) (e : Int) (p : PR α) : Prop := p = .bad 40 e s0 ∨ (∃ c a w, p = .bad c a w ∧ c ≠ 40) ∨ ∃ x, p = .ok x K
/-- Ahead of the cut: as at the cut, or as the whole one. -/
def Ct {α : Type} (K : Nat) (e : Int) (b : Nat) (p' p : PR α) : Prop := EndC K e p' ∨ (p' = p ∧ ∀ x j, p' = .ok x j → b ≤ j ∧ j < K)
theorem Ct.le {α : Type} {K : Nat} {e : Int} {b c : Nat} {p' p : PR α} (h : Ct K e b p' p) (hc : c ≤ b) : Ct K e c p' p := by
  rcases h with h | ⟨h, g⟩
  · exact .inl h
  · exact .inr ⟨h, fun x j q => by have := g x j q; omega⟩
section
variable {l : List Wd} {K : Nat} (hK : K < l.length) {e : Int}
include hK
/-! ### Types -/
/-! ### Terms -/
end
end Go.Proofs.YtmaokphbfjpodaaGreatDoor.E

/- Texts with other blanks, and texts that are cut, are scanned as they must; in plain Lean. No conditions. -/
set_option linter.unusedVariables false
set_option linter.unusedSimpArgs false
namespace Go.Proofs.YtmaokphbfjpodaaGreatDoor.E
open Go

/-- Every word was read somewhere. -/
theorem scan_words : ∀ (n p : Nat) (s : List UInt8) (ws : List Wd), scanL n p s = .ok ws → ∀ w ∈ ws, ∃ q l, wordL q l = .ok w ∧ skipL false l = 0
  | 0, p, s, ws, h, w, hw => by cases h; simp at hw
  | n + 1, p, s, ws, h, w, hw => by
    rw [scanL_skip] at h
    by_cases hr : s.drop (skipL false s) = []
    · rw [hr, scanL_nil] at h; cases h; simp at hw
    · have hag := skipL_again s false
      rw [scanL_step n _ _ hag hr] at h
      split at h
      · cases h
      · rename_i v hv
        split at h
        · cases h
        · rename_i l' hl
          cases h
          rcases List.mem_cons.1 hw with rfl | hw
          · exact ⟨_, _, hv, hag⟩
          · exact scan_words n _ _ _ hl w hw
end Go.Proofs.YtmaokphbfjpodaaGreatDoor.E

/- Every term that is read knows its place, in plain Lean. No conditions. -/
set_option linter.unusedVariables false
set_option linter.unusedSimpArgs false
namespace Go.Proofs.YtmaokphbfjpodaaGreatDoor.E
open Go

/-- A number's word is its number's decimal form. -/
theorem wordL_dec {p : Nat} {l : List UInt8} {w : Wd} (h : wordL p l = .ok w) (hk : w.kind = 2) : ∃ v : Nat, w.num = v ∧ w.text.data.toList = Lib.decDigits v ∧ v ≤ 9223372036854775807 ∧ ∃ c r, w.text.data.toList = c :: r ∧ digitF c.toNat = true := by
  cases l with
  | nil => cases h
  | cons c l =>
    by_cases h1 : letterF c.toNat = true
    · rw [wordL_letter h1] at h
      split at h
      · cases h
      · split at h <;> (cases h; simp at hk)
    · have h1 : letterF c.toNat = false := by simpa using h1
      by_cases h2 : digitF c.toNat = true
      · have hp : 1 ≤ spanL false (c :: l) := by rw [spanL, if_pos (by rw [h2]; simp)]; omega
        have hall := spanL_all false (c :: l)
        have hle := spanL_le false (c :: l)
        rw [wordL_digit h1 h2] at h
        generalize spanL false (c :: l) = n at h hp hall hle
        split at h
        · cases h
        · rename_i v hv
          split at h
          · cases h
          · rename_i hc
            cases h
            obtain ⟨n, rfl⟩ : ∃ m, n = m + 1 := ⟨n - 1, by omega⟩
            refine ⟨v, rfl, ?_, numL_le _ 0 v (by omega) hv, c, l.take n, rfl, h2⟩
            refine dec_unique _ _ v rfl (fun d hd => by simpa using hall d hd) (by simp) (fun d r e hr he => ?_) hv
            rw [List.take_succ_cons] at e
            cases e
            refine hc (.inl ⟨?_, he⟩)
            cases n with
            | zero => simp at hr
            | succ n => omega
      · have h2 : digitF c.toNat = false := by simpa using h2
        unfold wordL at h
        simp only at h
        rw [if_neg (by rw [h1]; decide), if_neg (by rw [h2]; decide)] at h
        split at h
        · split at h <;> (cases h; simp at hk)
        · split at h
          · cases h; simp at hk
          · cases h
/-- The word that heads a term of this kind, where the byte at its place is c. -/
def headP (k : Int) (name : ByteArray) (num : Int) (c : Int) (h : ByteArray) : Prop :=
  if k = 1 then (if num < 0 ∨ num = 0 ∧ c = 45 then h = ⟨#[45]⟩ else h = digs num) else headW k name num ⟨0, h, 0, 0⟩
def HeadAt (x : ByteArray) (k : Int) (name : ByteArray) (num : Int) (place : Int) : Prop := ∃ (m : Nat) (h : ByteArray), place = (m : Int) ∧ 1 ≤ h.size ∧ m + h.size ≤ x.size ∧ x.extract m (m + h.size) = h ∧ headP k name num (byteAt x (m : Nat)) h
mutual
def Plc (x : ByteArray) : Tm → Prop
  | .node k name _ num _ _ _ _ _ place ks => HeadAt x k name num place ∧ PlcL x ks
def PlcL (x : ByteArray) : List Tm → Prop
  | [] => True
  | t :: ts => Plc x t ∧ PlcL x ts
end
mutual
def ats : Tm → List Int
  | .node _ _ _ _ _ _ _ _ _ place ks => place :: atsL ks
def atsL : List Tm → List Int
  | [] => []
  | t :: ts => ats t ++ atsL ts
end
theorem plcL_mem {x : ByteArray} : ∀ {ks : List Tm}, PlcL x ks → ∀ t ∈ ks, Plc x t
  | y :: ks, h, t, ht => by
    rcases List.mem_cons.1 ht with rfl | ht
    · exact h.1
    · exact plcL_mem h.2 t ht
theorem ats_len (t : Tm) : (ats t).length ≤ tmN t := by
  induction t using Tm.ind with
  | _ k name arg num tk tks uk uks label place ks ih =>
  have : ∀ ks : List Tm, (∀ t ∈ ks, (ats t).length ≤ tmN t) → (atsL ks).length ≤ tmNL ks := by
    intro ks
    induction ks with
    | nil => intro _; simp [atsL]
    | cons t ts il =>
      intro hk
      have h1 := hk t (by simp)
      have h2 := il fun t ht => hk t (List.mem_cons_of_mem _ ht)
      simp only [atsL, tmNL, List.length_append]; omega
  have := this ks ih
  simp only [ats, tmN, List.length_cons]; omega
theorem atsL_len (ks : List Tm) : (atsL ks).length ≤ tmNL ks := by
  induction ks with
  | nil => simp [atsL]
  | cons t ts il =>
    have h1 := ats_len t
    simp only [atsL, tmNL, List.length_append]; omega
theorem atsL_take : ∀ (ks : List Tm) (i : Nat) t, ks[i]? = some t → atsL (ks.take (i + 1)) = atsL (ks.take i) ++ ats t
  | x :: ks, 0, t, h => by simp at h; subst h; simp [atsL]
  | x :: ks, i + 1, t, h => by
    simp only [List.getElem?_cons_succ] at h
    have := atsL_take ks i t h
    simp only [List.take_succ_cons, atsL, this, List.append_assoc]
theorem head_byte {x w : ByteArray} {m : Nat} {c : UInt8} {l : List UInt8} (h : (x.data.toList.drop m).take w.size = w.data.toList) (hw : w.data.toList = c :: l) : byteAt x (m : Nat) = c.toNat := by
  have h0 := congrArg (fun l : List UInt8 => l[0]?) (h.trans hw)
  simp only [List.getElem?_cons_zero] at h0
  rw [List.getElem?_take, if_pos (by have : w.data.toList.length = w.size := rfl; rw [hw] at this; simp at this; omega), List.getElem?_drop] at h0
  unfold byteAt
  rw [show ((m : Nat) : Int).toNat = m from rfl, show x.data.toList[m]? = some c by simpa using h0]
  rfl
theorem head_at {x : ByteArray} {n : Nat} {ws : List Wd} (hs : scanL n 0 x.data.toList = .ok ws) {q : Nat} {w : Wd} (hq : ws[q]? = some w) {k : Int} {name : ByteArray} {num : Int} (hh : headW k name num w) : HeadAt x k name num w.place := by
  obtain ⟨m, a1, a2, a3, a4⟩ := scan_at _ _ _ _ hs q w hq
  rw [Nat.zero_add] at a1
  have hl : x.data.toList.length = x.size := rfl
  refine ⟨m, w.text, a1, a3, by omega, ?_, ?_⟩
  · apply ByteArray.ext
    rw [ByteArray.data_extract]
    apply Array.ext'
    rw [Array.toList_extract, List.extract_eq_take_drop, Nat.add_sub_cancel_left, a4]
  · unfold headP
    by_cases h1 : k = 1
    · subst h1
      rw [if_pos rfl]
      have hh : (w.kind = 2 ∧ w.num = num) ∨ (w.text = ⟨#[45]⟩ ∧ num ≤ 0) := hh
      rcases hh with ⟨h2, hn⟩ | ⟨h2, hn⟩
      · obtain ⟨r, l, hw, _⟩ := scan_words _ _ _ _ hs w (List.mem_of_getElem? hq)
        obtain ⟨v, e1, e2, _, c, l', e3, e4⟩ := wordL_dec hw h2
        have hb := head_byte a4 e3
        rw [if_neg]
        · apply ByteArray.ext
          apply Array.ext'
          rw [e2]
          unfold digs Lib.itoa
          rw [if_neg (by omega), show num.toNat = v by omega]
        · rintro (h | ⟨_, h⟩)
          · omega
          · rw [hb] at h
            simp only [digitF, Bool.and_eq_true, decide_eq_true_eq] at e4
            omega
      · rw [if_pos, h2]
        have hb := head_byte (c := 45) (l := []) a4 (by rw [h2])
        rw [hb]
        rcases Int.lt_or_eq_of_le hn with h | h
        · exact .inl h
        · exact .inr ⟨h, rfl⟩
    · rw [if_neg h1]
      unfold headW at hh ⊢
      simp only [if_neg h1] at hh ⊢
      exact hh
def plW (l : List Wd) (q : Nat) : Int := ((l[q]?).map Wd.place).getD 0
theorem ix_plc {x : ByteArray} {n : Nat} {ws l : List Wd} (hs : scanL n 0 x.data.toList = .ok ws) (hl : ∀ q, q < ws.length → l[q]? = ws[q]?) {t : Tm} {I : List Nat} (h : Ix l t I) : (∀ q ∈ I, q < ws.length) → Plc x t ∧ ats t = I.map (plW l) := by
  induction h with
  | @mk k name arg num tk tks uk uks label ks q w Js hw hh hlen hk ih =>
    intro hI
    have hq : q < ws.length := hI q (by simp)
    have hw' : ws[q]? = some w := (hl q hq).symm.trans hw
    have hr : ∀ (ks : List Tm) (Js : List (List Nat)), ks.length = Js.length → (∀ (n : Nat) (t : Tm) (J : List Nat), ks[n]? = some t → Js[n]? = some J → (∀ q ∈ J, q < ws.length) → Plc x t ∧ ats t = J.map (plW l)) → (∀ q ∈ Js.flatten, q < ws.length) → PlcL x ks ∧ atsL ks = Js.flatten.map (plW l) := by
      intro ks
      induction ks with
      | nil =>
        intro Js h _ _
        cases Js with
        | nil => exact ⟨trivial, rfl⟩
        | cons J Js => simp at h
      | cons t ts il =>
        intro Js h g hq
        cases Js with
        | nil => simp at h
        | cons J Js =>
          simp only [List.flatten_cons, List.mem_append] at hq
          obtain ⟨g1, g2⟩ := g 0 t J rfl rfl fun q h => hq q (.inl h)
          obtain ⟨g3, g4⟩ := il Js (by simpa using h) (fun n t J h1 h2 => g (n + 1) t J (by simpa using h1) (by simpa using h2)) fun q h => hq q (.inr h)
          exact ⟨⟨g1, g3⟩, by rw [atsL, g2, g4, List.flatten_cons, List.map_append]⟩
    obtain ⟨h1, h2⟩ := hr ks Js hlen ih fun q h => hI q (List.mem_cons_of_mem _ h)
    refine ⟨⟨head_at hs hw' hh, h1⟩, ?_⟩
    rw [ats, h2, List.map_cons]
    congr 1
    unfold plW
    rw [hw]; rfl
/-- Every term that is read knows its place: each head word is there, and no two places are one. -/
theorem read_places {x : ByteArray} {t : Tm} (h : readF x = .ok t) : Plc x t ∧ (ats t).Nodup ∧ ∀ a ∈ ats t, 0 ≤ a ∧ a < x.size := by
  unfold readF at h
  split at h
  · cases h
  · rename_i l hl
    split at h
    · cases h
    · rename_i t' j hw
      have ht : t' = t := by
        split at h
        · rename_i w hwj
          by_cases hk : w.kind = 0
          · rw [if_pos hk] at h; cases h; rfl
          · rw [if_neg hk] at h; cases h
        · cases h
      subst ht
      obtain ⟨_, ws, rfl, hlen, hs⟩ := scanF_ok hl
      have hE : EndW (ws ++ [(⟨0, s0, 0, (x.size : Int)⟩ : Wd)]) ws.length := ⟨⟨0, s0, 0, x.size⟩, by simp, rfl⟩
      have hj := wordsP_bd hE t' j hw
      have hT : Tp (ws ++ [(⟨0, s0, 0, (x.size : Int)⟩ : Wd)]) 0 j t' := by
        unfold wordsP at hw
        cases hp : pTerm (ws ++ [(⟨0, s0, 0, (x.size : Int)⟩ : Wd)]) ((ws ++ [(⟨0, s0, 0, (x.size : Int)⟩ : Wd)]).length + 1) 0 with
        | bad e a w => rw [hp] at hw; cases hw
        | ok u q =>
          rw [hp, bindP_ok] at hw
          have hg := (pTerm_pj (scanF_wok hl) _ 0 u q hp).2
          split at hw
          · cases hw
          · split at hw
            · cases hw
            · cases hw; exact hg
      obtain ⟨I, g1, g2, g3⟩ := hT
      have hlq : ∀ q, q < ws.length → (ws ++ [(⟨0, s0, 0, (x.size : Int)⟩ : Wd)])[q]? = ws[q]? := fun q hq => List.getElem?_append_left hq
      have hI : ∀ q ∈ I, q < ws.length := fun q hq => by have := g3 q hq; omega
      obtain ⟨p1, p2⟩ := ix_plc hs hlq g1 hI
      have hpl : ∀ q ∈ I, ∃ w, ws[q]? = some w ∧ plW (ws ++ [(⟨0, s0, 0, (x.size : Int)⟩ : Wd)]) q = w.place := fun q hq => by
        refine ⟨_, List.getElem?_eq_getElem (hI q hq), ?_⟩
        unfold plW
        rw [hlq q (hI q hq), List.getElem?_eq_getElem (hI q hq)]
        rfl
      refine ⟨p1, ?_, fun a ha => ?_⟩
      · rw [p2]
        unfold List.Nodup
        rw [List.pairwise_map]
        refine List.Pairwise.imp_of_mem (fun {a b} ha hb hne e => ?_) g2
        obtain ⟨w, hw1, hw2⟩ := hpl a ha
        obtain ⟨w', hw1', hw2'⟩ := hpl b hb
        rw [hw2, hw2'] at e
        obtain ⟨_, _, _, z, _⟩ := scan_at _ _ _ _ hs a w hw1
        obtain ⟨_, _, _, z', _⟩ := scan_at _ _ _ _ hs b w' hw1'
        rcases Nat.lt_or_gt_of_ne hne with h | h
        · have := scan_inc _ _ _ _ hs a b w w' h hw1 hw1'; omega
        · have := scan_inc _ _ _ _ hs b a w' w h hw1' hw1; omega
      · rw [p2] at ha
        obtain ⟨q, hq, rfl⟩ := List.mem_map.1 ha
        obtain ⟨w, hw1, hw2⟩ := hpl q hq
        obtain ⟨m, e1, e2, e3, _⟩ := scan_at _ _ _ _ hs q w hw1
        have hsz : x.data.toList.length = x.size := rfl
        rw [hw2, e1]
        omega
end Go.Proofs.YtmaokphbfjpodaaGreatDoor.E

/- Rows of numbers, and which were met. No conditions. -/
set_option linter.unusedVariables false
set_option linter.unusedSimpArgs false
namespace Go.Proofs.YtmaokphbfjpodaaGreatDoor.E
open Go

def zints (l : List Int) : List (List DV) := l.map fun s => [.int .i64 s]
theorem zints_len (l : List Int) : (zints l).length = l.length := by simp [zints]
/-- What stands in the row: which spots were met. -/
def zmet (l : List Int) (S : Nat) : List Int := (List.range S).map fun i => if ((i : Nat) : Int) ∈ l then 1 else 0
theorem zmet_len (l : List Int) (S : Nat) : (zmet l S).length = S := by simp [zmet]
theorem zmet_get (l : List Int) (S i : Nat) (h : i < S) : (zmet l S)[i]? = some (if (i : Int) ∈ l then 1 else 0) := by simp [zmet, h]
theorem zmet_set (l : List Int) (S s : Nat) (h : s < S) : (zmet l S).set s 1 = zmet (l ++ [(s : Int)]) S := by
  refine List.ext_getElem? fun j => ?_
  rw [List.getElem?_set]
  by_cases hj : s = j
  · subst hj
    rw [if_pos rfl, zmet_len, if_pos h, zmet_get _ _ _ h]
    simp
  · rw [if_neg hj]
    by_cases hb : j < S
    · rw [zmet_get _ _ _ hb, zmet_get _ _ _ hb]
      have : ¬ ((j : Int) = (s : Int)) := by omega
      simp [this]
    · rw [List.getElem?_eq_none (by rw [zmet_len]; omega), List.getElem?_eq_none (by rw [zmet_len]; omega)]
theorem zmet_nil (S : Nat) : zints (zmet [] S) = List.replicate S [.int .i64 0] := by
  refine List.ext_getElem? fun j => ?_
  by_cases hb : j < S
  · simp [zints, zmet, hb, List.getElem?_replicate]
  · rw [List.getElem?_eq_none (by rw [zints_len, zmet_len]; omega), List.getElem?_eq_none (by simp; omega)]
theorem zints_set (l : List Int) (i : Nat) (x : Int) : (zints l).set i [.int .i64 x] = zints (l.set i x) := by
  unfold zints
  rw [List.map_set]
theorem zints_app (a b : List Int) : zints (a ++ b) = zints a ++ zints b := by simp [zints]
theorem headP_kind {k : Int} {name : ByteArray} {num c : Int} {w : ByteArray} (h : headP k name num c w) : 0 ≤ k ∧ k ≤ 16 := by
  refine Decidable.byContradiction fun hn => ?_
  unfold headP headW at h
  simp only [show ¬ k = 0 by omega, show ¬ k = 1 by omega, show ¬ k = 2 by omega, show ¬ k = 3 by omega, show ¬ k = 4 by omega, show ¬ k = 5 by omega, show ¬ k = 6 by omega, show ¬ k = 7 by omega, show ¬ k = 8 by omega, show ¬ k = 9 by omega, show ¬ k = 10 by omega, show ¬ k = 11 by omega, show ¬ k = 12 by omega, show ¬ k = 13 by omega, show ¬ k = 14 by omega, show ¬ k = 15 by omega, show ¬ k = 16 by omega, if_false] at h
theorem ztmNL_take_le (ks : List Tm) (i : Nat) : tmNL (ks.take i) ≤ tmNL ks := by
  induction ks generalizing i with
  | nil => simp [tmNL]
  | cons t ks ih =>
    cases i with
    | zero => simp [tmNL]
    | succ i =>
      have := ih i
      simp only [List.take_succ_cons, tmNL]; omega
/-- A number met the first time. -/
theorem fresh {L : List Int} (h : L.Nodup) {i : Nat} {a : Int} (hi : L[i]? = some a) : a ∉ L.take i := by
  have hlt := (List.getElem?_eq_some_iff.1 hi).1
  have e : L = L.take i ++ a :: L.drop (i + 1) := by
    rw [← (List.getElem?_eq_some_iff.1 hi).2, ← List.drop_eq_getElem_cons hlt, List.take_append_drop]
  rw [e] at h
  have := (List.nodup_append.1 h).2.2
  exact fun hm => this a hm a (by simp) rfl
end Go.Proofs.YtmaokphbfjpodaaGreatDoor.E
