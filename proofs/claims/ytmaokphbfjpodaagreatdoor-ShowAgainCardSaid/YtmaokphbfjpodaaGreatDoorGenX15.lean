/- Texts, merged: Bk4, Bk5, Bk6. No conditions. -/
import Derived.Test.YtmaokphbfjpodaaGreatDoorGenX14
import Derived.Test.YtmaokphbfjpodaaGreatDoorGenX8
/- What is told is scanned as the words it was told in, in plain Lean. No conditions. -/
set_option linter.unusedVariables false
set_option linter.unusedSimpArgs false
namespace Go.Proofs.YtmaokphbfjpodaaGreatDoor.E
open Go

/-- What stands behind a word: nothing, a blank, or a bracket. -/
def sepB (s : List UInt8) : Prop := s = [] ∨ ∃ r, s = 32 :: r ∨ s = 41 :: r
/-- A word that begins here, and what stands behind it. -/
def WOk (x : Tk) (s : List UInt8) : Prop := (∀ p, wordL p (x.text.data.toList ++ s) = .ok ⟨x.kind, x.text, x.num, p⟩) ∧ skipL false (x.text.data.toList ++ s) = 0
inductive Tx : List UInt8 → List Tk → Prop where
  | nil : Tx [] []
  | sp {s : List UInt8} {L : List Tk} : Tx s L → Tx (32 :: s) L
  | wd {s : List UInt8} {L : List Tk} (x : Tk) : WOk x s → Tx s L → Tx (x.text.data.toList ++ s) (x :: L)
theorem scanL_sp (n p : Nat) (s : List UInt8) : scanL (n + 1) p (32 :: s) = scanL (n + 1) (p + 1) s := by
  have h : skipL false (32 :: s) = 1 + skipL false s := by simp [skipL]
  have e := scanL_skip n p (32 :: s)
  have e2 := scanL_skip n (p + 1) s
  rw [h, show (32 :: s).drop (1 + skipL false s) = s.drop (skipL false s) by rw [Nat.add_comm]; rfl, show p + (1 + skipL false s) = p + 1 + skipL false s by omega] at e
  rw [e, ← e2]
theorem tx_scan {s : List UInt8} {L : List Tk} (h : Tx s L) : ∀ n p, s.length < n → ∃ ws, scanL n p s = .ok ws ∧ ws.map Wd.tk = L := by
  induction h with
  | nil => intro n p hn; obtain ⟨n, rfl⟩ : ∃ q, n = q + 1 := ⟨n - 1, by simp at hn; omega⟩; exact ⟨[], rfl, rfl⟩
  | sp h ih =>
    intro n p hn
    obtain ⟨n, rfl⟩ : ∃ q, n = q + 1 := ⟨n - 1, by omega⟩
    rw [scanL_sp]
    exact ih _ _ (by simp at hn ⊢; omega)
  | @wd s L x hw h ih =>
    intro n p hn
    obtain ⟨n, rfl⟩ : ∃ q, n = q + 1 := ⟨n - 1, by omega⟩
    have hk := wordL_ok (hw.1 p)
    have hsz : x.text.data.toList.length = x.text.size := rfl
    have hne : x.text.data.toList ++ s ≠ [] := fun e => by
      have := congrArg List.length e
      rw [List.length_append, hsz] at this
      have := hk.1
      simp at this
      simp_all
    rw [scanL_step n p _ hw.2 hne, hw.1 p]
    simp only
    rw [List.length_append, hsz] at hn
    have h1 := hk.1
    simp only at h1
    obtain ⟨ws, e1, e2⟩ := ih n (p + x.text.size) (by omega)
    rw [show (x.text.data.toList ++ s).drop x.text.size = s by rw [← hsz]; simp, e1]
    exact ⟨_, rfl, by rw [List.map_cons, e2]; rfl⟩

/-! ### Words -/
theorem spanL_app (b : Bool) : ∀ (l s : List UInt8), (∀ c ∈ l, (digitF c.toNat || (b && letterF c.toNat)) = true) → spanL b s = 0 → spanL b (l ++ s) = l.length
  | [], s, _, h => by simpa using h
  | c :: l, s, hl, h => by
    rw [List.cons_append, spanL, if_pos (hl c (by simp)), spanL_app b l s (fun c hc => hl c (by simp [hc])) h, List.length_cons]
    omega
theorem sep_span {s : List UInt8} (h : sepB s) (b : Bool) : spanL b s = 0 := by
  rcases h with rfl | ⟨r, rfl | rfl⟩
  · rfl
  · rw [spanL, if_neg (by cases b <;> decide)]
  · rw [spanL, if_neg (by cases b <;> decide)]
theorem sep_next {s : List UInt8} (h : sepB s) : nextLetter s = false := by
  rcases h with rfl | ⟨r, rfl | rfl⟩ <;> rfl
theorem skip_head {c : UInt8} {l : List UInt8} (h : c ≠ 10 ∧ c ≠ 32 ∧ c ≠ 9 ∧ c ≠ 13 ∧ c ≠ 35) : skipL false (c :: l) = 0 := by
  simp [skipL, h.1, h.2.1, h.2.2.1, h.2.2.2.1, h.2.2.2.2]
theorem letter_head {c : UInt8} (h : letterF c.toNat = true ∨ digitF c.toNat = true) : c ≠ 10 ∧ c ≠ 32 ∧ c ≠ 9 ∧ c ≠ 13 ∧ c ≠ 35 := by
  refine ⟨?_, ?_, ?_, ?_, ?_⟩ <;> (rintro rfl; revert h; decide)
/-- Letters and digits, a letter first. -/
theorem word_name {w : ByteArray} {c : UInt8} {l s : List UInt8} (e : w.data.toList = c :: l) (hc : letterF c.toNat = true) (hl : ∀ d ∈ w.data.toList, (digitF d.toNat || (true && letterF d.toNat)) = true) (h64 : w.size ≤ 64) (hs : sepB s) :
    (∀ p, wordL p (w.data.toList ++ s) = .ok ⟨if keyF w = true then 3 else 1, w, 0, p⟩) ∧ skipL false (w.data.toList ++ s) = 0 := by
  have hw : (⟨(c :: (l ++ s)).take w.size |>.toArray⟩ : ByteArray) = w := by
    apply ByteArray.ext
    apply Array.ext'
    have : w.size = (c :: l).length := by rw [← e]; rfl
    rw [this, ← List.cons_append, List.take_left', ← e]
    · rfl
  have hsp : spanL true (c :: (l ++ s)) = w.size := by
    have := spanL_app true w.data.toList s hl (sep_span hs true)
    rw [e, List.cons_append] at this
    rw [this, ← e]; rfl
  refine ⟨fun p => ?_, ?_⟩
  · rw [e, List.cons_append, wordL_letter hc, hsp, hw]
    have hz : ((c :: (l ++ s)).take w.size).toArray.size = w.size := congrArg ByteArray.size hw
    rw [if_neg (by rw [hz]; omega)]
    split <;> rfl
  · rw [e, List.cons_append]
    exact skip_head (letter_head (.inl hc))
theorem wok_key {l : List UInt8} {c : UInt8} {r : List UInt8} (e : l = c :: r) (hc : letterF c.toNat = true) (hl : (l.all fun d => digitF d.toNat || (true && letterF d.toNat)) = true) (hk : keyF (bw l) = true) (h64 : (bw l).size ≤ 64) {s : List UInt8} (hs : sepB s) : WOk (ky l) s := by
  have h := word_name (w := bw l) (c := c) (l := r) (s := s) (by rw [← e]; rfl) hc (fun d hd => List.all_eq_true.1 hl d hd) h64 hs
  rw [hk, if_pos rfl] at h
  exact h
theorem byteAt_list {w : ByteArray} {c : UInt8} {l : List UInt8} (e : w.data.toList = c :: l) : byteAt w 0 = ((c.toNat : Nat) : Int) := by
  unfold byteAt
  rw [e]
  rfl
theorem bytesF_all {w : ByteArray} : ∀ n, n ≤ w.size → bytesF w n = true → ∀ d ∈ w.data.toList.take n, nbF (d.toNat : Nat) = true
  | 0, _, _, d, hd => by simp at hd
  | n + 1, hn, h, d, hd => by
    simp only [bytesF, Bool.and_eq_true] at h
    have hlt : n < w.data.toList.length := hn
    rw [List.take_succ_eq_append_getElem hlt, List.mem_append] at hd
    rcases hd with hd | hd
    · exact bytesF_all n (by omega) h.1 d hd
    · simp at hd
      subst hd
      have h2 := h.2
      unfold byteAt at h2
      rw [show ((n : Nat) : Int).toNat = n from rfl, List.getElem?_eq_getElem hlt] at h2
      exact h2
theorem wok_name {w : ByteArray} (h : nameF w = true) {s : List UInt8} (hs : sepB s) : WOk (nmT w) s := by
  simp only [nameF, Bool.and_eq_true, Bool.not_eq_true', decide_eq_true_eq, decide_eq_false_iff_not] at h
  obtain ⟨⟨⟨⟨h1, h2⟩, h3⟩, h4⟩, h5⟩ := h
  have hp := pos_size h1
  obtain ⟨c, l, e⟩ : ∃ c l, w.data.toList = c :: l := by
    cases hq : w.data.toList with
    | nil => have : w.data.toList.length = w.size := rfl; rw [hq] at this; simp at this; omega
    | cons c l => exact ⟨c, l, rfl⟩
  have hall := bytesF_all w.size (Nat.le_refl _) h5
  rw [show w.data.toList.take w.size = w.data.toList from List.take_length (l := w.data.toList)] at hall
  have hfl := first_letter hp h5
  rw [h4, byteAt_list e] at hfl
  have hn := word_name (s := s) e (by simpa using hfl) (fun d hd => by have := hall d hd; unfold nbF at this; rw [Bool.or_comm]; simpa using this) h2 hs
  rw [h3, if_neg (by decide)] at hn
  exact hn

/-! ### Numbers -/
theorem numL_app : ∀ (a : List UInt8) (n : Nat) (c : UInt8), numL n (a ++ [c]) = match numL n a with
    | none => none
    | some v => if v > (9223372036854775807 - (c.toNat - 48)) / 10 then none else some (v * 10 + (c.toNat - 48))
  | [], n, c => rfl
  | x :: a, n, c => by
    rw [List.cons_append, numL, numL]
    split
    · rfl
    · exact numL_app a _ c
theorem dig_nat {d : Nat} (h : d < 10) : (UInt8.ofNat (48 + d)).toNat = 48 + d := by simp; omega
theorem decs (u : Nat) : u ≤ 9223372036854775807 → numL 0 (Lib.decDigits u) = some u ∧ (∀ c ∈ Lib.decDigits u, digitF c.toNat = true) ∧ ∃ c l, Lib.decDigits u = c :: l ∧ (1 ≤ u → c ≠ 48) ∧ (u < 10 → l = []) := by
  induction u using Nat.strongRecOn with
  | _ u ih =>
  intro hu
  rw [Lib.decDigits]
  have hd : ∀ d, d < 10 → digitF (UInt8.ofNat (48 + d)).toNat = true := fun d h => by
    rw [dig_nat h]; simp only [digitF, Bool.and_eq_true, decide_eq_true_eq]; omega
  have hne : ∀ d, d < 10 → 1 ≤ d → UInt8.ofNat (48 + d) ≠ 48 := fun d h h1 e => by
    have := congrArg UInt8.toNat e
    rw [dig_nat h, show ((48 : UInt8)).toNat = 48 from rfl] at this
    omega
  by_cases h : u < 10
  · rw [dif_pos h]
    refine ⟨?_, fun c hc => ?_, _, [], rfl, fun h1 => hne u h h1, fun _ => rfl⟩
    · rw [numL, if_neg (by rw [dig_nat h]; omega), numL, dig_nat h]; congr 1; omega
    · rw [List.mem_singleton] at hc; subst hc; exact hd u h
  · rw [dif_neg h]
    obtain ⟨a1, a2, c, l, a3, a4, a5⟩ := ih (u / 10) (by omega) (by omega)
    have hm : u % 10 < 10 := by omega
    refine ⟨?_, fun c hc => ?_, c, l ++ [UInt8.ofNat (48 + u % 10)], by rw [a3]; rfl, fun _ => a4 (by omega), fun h2 => absurd h2 h⟩
    · rw [numL_app, a1]
      simp only
      rw [dig_nat hm, if_neg (by omega)]
      congr 1; omega
    · rcases List.mem_append.1 hc with hc | hc
      · exact a2 c hc
      · rw [List.mem_singleton] at hc; subst hc; exact hd _ hm
theorem wok_num {n : Int} (h0 : 0 ≤ n) (h1 : n ≤ 9223372036854775807) {s : List UInt8} (hs : sepB s) : WOk (nuT n) s := by
  obtain ⟨a1, a2, c, l, a3, a4, a5⟩ := decs n.toNat (by omega)
  have ht : (nuT n).text.data.toList = Lib.decDigits n.toNat := by
    show (digs n).data.toList = _
    unfold digs Lib.itoa
    rw [if_neg (by omega)]
  have hd : digitF c.toNat = true := a2 c (by rw [a3]; simp)
  have hl : letterF c.toNat = false := by
    simp only [digitF, Bool.and_eq_true, decide_eq_true_eq] at hd
    simp only [letterF, Bool.or_eq_false_iff, Bool.and_eq_false_iff, decide_eq_false_iff_not]
    omega
  have hsp : spanL false (c :: (l ++ s)) = (c :: l).length := by
    have := spanL_app false (Lib.decDigits n.toNat) s (fun d hd => by rw [a2 d hd]; rfl) (sep_span hs false)
    rw [a3, List.cons_append] at this
    exact this
  refine ⟨fun p => ?_, ?_⟩
  · rw [ht, a3, List.cons_append, wordL_digit hl hd, hsp, ← List.cons_append, List.take_left', List.drop_left', ← a3, a1]
    · simp only
      rw [if_neg]
      · congr 1
        rw [show (⟨(Lib.decDigits n.toNat).toArray⟩ : ByteArray) = (nuT n).text by
          show _ = digs n
          unfold digs Lib.itoa
          rw [if_neg (by omega)]]
        show Wd.mk 2 _ ((n.toNat : Nat) : Int) _ = Wd.mk 2 _ n _
        rw [show ((n.toNat : Nat) : Int) = n by omega]
      · rintro (⟨q1, q2⟩ | q)
        · have h10 : ¬ n.toNat < 10 := fun h10 => by rw [a3, a5 h10] at q1; simp at q1
          exact a4 (by omega) q2
        · rw [sep_next hs] at q; cases q
    · rfl
    · rfl
  · rw [ht, a3, List.cons_append]
    exact skip_head (letter_head (.inr hd))
end Go.Proofs.YtmaokphbfjpodaaGreatDoor.E

/- The text that is told of a term, and its words, in plain Lean. No conditions. -/
set_option linter.unusedVariables false
set_option linter.unusedSimpArgs false
namespace Go.Proofs.YtmaokphbfjpodaaGreatDoor.E
open Go

theorem sep_nil : sepB [] := .inl rfl
theorem sep_sp (r : List UInt8) : sepB (32 :: r) := .inr ⟨r, .inl rfl⟩
theorem sep_br (r : List UInt8) : sepB (41 :: r) := .inr ⟨r, .inr rfl⟩
theorem wok_sign {c : UInt8} (h : (!letterF c.toNat && !digitF c.toNat && decide (c ≠ 45) && decide (c ∈ signsF) && decide (c ≠ 10 ∧ c ≠ 32 ∧ c ≠ 9 ∧ c ≠ 13 ∧ c ≠ 35)) = true) (s : List UInt8) : WOk (sg [c]) s := by
  simp only [Bool.and_eq_true, Bool.not_eq_true', decide_eq_true_eq] at h
  obtain ⟨⟨⟨⟨h1, h2⟩, h3⟩, h4⟩, h5⟩ := h
  refine ⟨fun p => ?_, skip_head h5⟩
  exact wordL_sign h1 h2 h3 h4
theorem wok_dash {s : List UInt8} (h : sepB s) : WOk (sg [45]) s := by
  refine ⟨fun p => ?_, skip_head (by decide)⟩
  refine wordL_dash fun r e => ?_
  rcases h with rfl | ⟨q, rfl | rfl⟩ <;> cases e
theorem wok_arrow (s : List UInt8) : WOk (sg [45, 62]) s := ⟨fun p => rfl, skip_head (by decide)⟩
theorem tx_one {x : Tk} {l s : List UInt8} {L : List Tk} (e : x.text.data.toList = l) (h : WOk x s) (t : Tx s L) : Tx (l ++ s) (x :: L) := by
  rw [← e]; exact Tx.wd x h t

/-! ### Types -/
def TyX (t : Ty) : Prop := ∀ s L, sepB s → Tx s L → Tx (tyO t ++ s) (tyT t ++ L)
theorem tx_tbr {t : Ty} (h : TyX t) (least : Int) {s : List UInt8} {L : List Tk} (hs : sepB s) (ht : Tx s L) : Tx (tbr least (tyK t) (tyO t) ++ s) (tyA least t ++ L) := by
  unfold tyA tbr tbrT
  split
  · rw [List.cons_append, List.cons_append, List.append_assoc, List.append_assoc]
    exact tx_one (x := sg [40]) rfl (wok_sign (by decide) _) (h _ _ (sep_br _) (tx_one (x := sg [41]) rfl (wok_sign (by decide) _) ht))
  · exact h s L hs ht
theorem tx_ty {t : Ty} (h : TyG t) : TyX t := by
  induction h with
  | leaf k hk =>
    intro s L hs ht
    rcases hk with rfl | rfl | rfl
    · exact tx_one (x := sg [63]) rfl (wok_sign (by decide) _) ht
    · exact tx_one (x := ky [105, 110, 116]) rfl (wok_key rfl (by decide) (by decide) (by decide) (by decide) hs) ht
    · exact tx_one (x := ky [98, 111, 111, 108]) rfl (wok_key rfl (by decide) (by decide) (by decide) (by decide) hs) ht
  | two k a b hk ha hb iha ihb =>
    intro s L hs ht
    have hT : tyT (.node k [a, b]) = tyA (tleft k) a ++ tsignT k :: tyA (tright2 k) b := rfl
    have hO : tyO (.node k [a, b]) = tbr (tleft k) (tyK a) (tyO a) ++ tsign k ++ tbr (tright2 k) (tyK b) (tyO b) := rfl
    rw [hT, hO, List.append_assoc, List.append_assoc, List.append_assoc, List.cons_append]
    have hb := tx_tbr ihb (tright2 k) hs ht
    rcases hk with rfl | rfl | rfl
    · exact tx_tbr iha _ (sep_sp _) (.sp (tx_one (x := sg [45, 62]) (l := [45, 62]) rfl (wok_arrow _) (.sp hb)))
    · exact tx_tbr iha _ (sep_sp _) (.sp (tx_one (x := sg [42]) (l := [42]) rfl (wok_sign (by decide) _) (.sp hb)))
    · exact tx_tbr iha _ (sep_sp _) (.sp (tx_one (x := sg [43]) (l := [43]) rfl (wok_sign (by decide) _) (.sp hb)))

/-! ### Single blanks, and none at the ends -/
def ptB : UInt8 → List UInt8 → Bool
  | p, [] => decide (p ≠ 32)
  | p, c :: l => (decide (c ≠ 32) || decide (p ≠ 32)) && ptB c l
def Pt (l : List UInt8) : Prop := ptB 32 l = true
theorem ptB_any {q : UInt8} {l : List UInt8} (h : Pt l) : ptB q l = true := by
  cases l with
  | nil => cases h
  | cons c l =>
    unfold Pt at h
    simp only [ptB, Bool.and_eq_true, Bool.or_eq_true, decide_eq_true_eq] at h ⊢
    exact ⟨.inl (by rcases h.1 with h | h; exact h; exact absurd rfl h), h.2⟩
theorem ptB_app : ∀ (a : List UInt8) (p : UInt8) (b : List UInt8), ptB p a = true → Pt b → ptB p (a ++ b) = true
  | [], p, b, _, h => ptB_any h
  | c :: a, p, b, h, g => by
    simp only [List.cons_append, ptB, Bool.and_eq_true] at h ⊢
    exact ⟨h.1, ptB_app a c b h.2 g⟩
theorem ptB_sp : ∀ (a : List UInt8) (p : UInt8) (b : List UInt8), ptB p a = true → Pt b → ptB p (a ++ 32 :: b) = true
  | [], p, b, h, g => by
    simp only [List.nil_append, ptB, Bool.and_eq_true, Bool.or_eq_true, decide_eq_true_eq] at h ⊢
    exact ⟨.inr h, g⟩
  | c :: a, p, b, h, g => by
    simp only [List.cons_append, ptB, Bool.and_eq_true] at h ⊢
    exact ⟨h.1, ptB_sp a c b h.2 g⟩
theorem Pt.app {a b : List UInt8} (h : Pt a) (g : Pt b) : Pt (a ++ b) := ptB_app a 32 b h g
theorem Pt.sp {a b : List UInt8} (h : Pt a) (g : Pt b) : Pt (a ++ 32 :: b) := ptB_sp a 32 b h g
theorem pt_all : ∀ (l : List UInt8) (p : UInt8), (∀ c ∈ l, c ≠ 32) → (l = [] → p ≠ 32) → ptB p l = true
  | [], p, _, h => by simp [ptB, h rfl]
  | c :: l, p, h, _ => by
    simp only [ptB, Bool.and_eq_true, Bool.or_eq_true, decide_eq_true_eq]
    exact ⟨.inl (h c (by simp)), pt_all l c (fun d hd => h d (by simp [hd])) fun _ => h c (by simp)⟩
theorem pt_tbr {t : Ty} (h : Pt (tyO t)) (least : Int) : Pt (tbr least (tyK t) (tyO t)) := by
  unfold tbr
  split
  · exact Pt.app (a := [40]) rfl (h.app (b := [41]) rfl)
  · exact h
theorem pt_ty {t : Ty} (h : TyG t) : Pt (tyO t) := by
  induction h with
  | leaf k hk => rcases hk with rfl | rfl | rfl <;> rfl
  | two k a b hk ha hb iha ihb =>
    have hO : tyO (.node k [a, b]) = tbr (tleft k) (tyK a) (tyO a) ++ tsign k ++ tbr (tright2 k) (tyK b) (tyO b) := rfl
    rw [hO, List.append_assoc]
    have h1 := pt_tbr iha (tleft k)
    have h2 := pt_tbr ihb (tright2 k)
    rcases hk with rfl | rfl | rfl
    · exact h1.sp (Pt.sp (a := [45, 62]) rfl h2)
    · exact h1.sp (Pt.sp (a := [42]) rfl h2)
    · exact h1.sp (Pt.sp (a := [43]) rfl h2)
theorem pt_name {w : ByteArray} (h : nameF w = true) : Pt w.data.toList := by
  simp only [nameF, Bool.and_eq_true, Bool.not_eq_true', decide_eq_true_eq, decide_eq_false_iff_not] at h
  obtain ⟨⟨⟨⟨h1, h2⟩, h3⟩, h4⟩, h5⟩ := h
  have hall := bytesF_all w.size (Nat.le_refl _) h5
  rw [show w.data.toList.take w.size = w.data.toList from List.take_length (l := w.data.toList)] at hall
  refine pt_all _ _ (fun c hc e => ?_) fun e => ?_
  · have := hall c hc
    subst e
    exact absurd this (by decide)
  · have := pos_size h1
    have h0 : w.data.toList.length = w.size := rfl
    rw [e] at h0
    simp at h0; omega
theorem pt_num {n : Int} (h0 : 0 ≤ n) (h1 : n ≤ 9223372036854775807) : Pt (digs n).data.toList := by
  obtain ⟨a1, a2, c, l, a3, a4, a5⟩ := decs n.toNat (by omega)
  have ht : (digs n).data.toList = Lib.decDigits n.toNat := by
    unfold digs Lib.itoa
    rw [if_neg (by omega)]
  rw [ht]
  refine pt_all _ _ (fun c hc e => ?_) fun e => by rw [a3] at e; cases e
  have := a2 c hc
  subst e
  exact absurd this (by decide)

/-! ### Lists of words -/
inductive PW : List ByteArray → List Tk → Prop where
  | nil : PW [] []
  | cons {w : ByteArray} {ws : List ByteArray} {L M : List Tk} (hp : Pt w.data.toList) (h : ∀ s L', sepB s → Tx s L' → Tx (w.data.toList ++ s) (L ++ L')) (t : PW ws M) : PW (w :: ws) (L ++ M)
theorem PW.app {a b : List ByteArray} {L M : List Tk} (h : PW a L) (g : PW b M) : PW (a ++ b) (L ++ M) := by
  induction h with
  | nil => exact g
  | cons hp h t ih => rw [List.cons_append, List.append_assoc]; exact .cons hp h ih
theorem PW.one (x : Tk) (h : ∀ s, sepB s → WOk x s) (hp : Pt x.text.data.toList) : PW [x.text] [x] := PW.cons (L := [x]) hp (fun s L' hs ht => Tx.wd x (h s hs) ht) .nil
theorem PW.ty {t : Ty} (hg : TyG t) : PW [bw (tyO t)] (tyT t) := by
  have := PW.cons (w := bw (tyO t)) (L := tyT t) (pt_ty hg) (fun s L' hs ht => tx_ty hg s L' hs ht) .nil
  simpa using this
theorem joinW_cons (w v : ByteArray) (ws : List ByteArray) : joinW (w :: v :: ws) = w.data.toList ++ 32 :: joinW (v :: ws) := by
  unfold joinW
  simp only [List.map_cons, Lib.join_cons, Lib.joinTail, List.flatten_cons, List.append_assoc, List.cons_append, List.nil_append]
theorem PW.tx {ws : List ByteArray} {L : List Tk} (h : PW ws L) : ∀ s L', sepB s → Tx s L' → Tx (joinW ws ++ s) (L ++ L') := by
  induction h with
  | nil => intro s L' _ ht; exact ht
  | @cons w ws L M hp h t ih =>
    intro s L' hs ht
    cases ws with
    | nil =>
      cases t
      have : joinW [w] = w.data.toList := by unfold joinW; simp [Lib.join_one]
      rw [this, List.append_nil]
      exact h s L' hs ht
    | cons v ws =>
      rw [joinW_cons, List.append_assoc, List.append_assoc, List.cons_append]
      exact h _ _ (sep_sp _) (.sp (ih s L' hs ht))
theorem pw_A {t : Tm} (h : PW (tmW t) (tmT t)) (least : Int) : PW (tmA least t) (tmAT least t) := by
  unfold tmA wbr tmAT wbrT
  split
  · exact h
  · have := ((PW.one (sg [40]) (fun s _ => wok_sign (by decide) s) rfl).app h).app (PW.one (sg [41]) (fun s _ => wok_sign (by decide) s) rfl)
    simpa [List.append_assoc, sg] using this
end Go.Proofs.YtmaokphbfjpodaaGreatDoor.E

/- The words of a term are scanned as its words; only what counts is told. No conditions. -/
set_option linter.unusedVariables false
set_option linter.unusedSimpArgs false
namespace Go.Proofs.YtmaokphbfjpodaaGreatDoor.E
open Go

theorem pw_0 {name arg : ByteArray} {num tk : Int} {tks : List Ty} {uk : Int} {uks : List Ty} {label place : Int} (hn : nameF name = true) : PW (tmW (.node 0 name arg num tk tks uk uks label place [])) (tmT (.node 0 name arg num tk tks uk uks label place [])) := by
  have hW : tmW (.node 0 name arg num tk tks uk uks label place []) = [name] := rfl
  have hT : tmT (.node 0 name arg num tk tks uk uks label place []) = [nmT name] := rfl
  have p := (PW.one (nmT name) (fun s h => wok_name hn h) (pt_name hn))
  rw [hW, hT]
  simpa [sg, ky, nmT, nuT, opT, List.append_assoc] using p
theorem pw_2 {name arg : ByteArray} {num tk : Int} {tks : List Ty} {uk : Int} {uks : List Ty} {label place : Int} : PW (tmW (.node 2 name arg num tk tks uk uks label place [])) (tmT (.node 2 name arg num tk tks uk uks label place [])) := by
  have hW : tmW (.node 2 name arg num tk tks uk uks label place []) = [bw [116, 114, 117, 101]] := rfl
  have hT : tmT (.node 2 name arg num tk tks uk uks label place []) = [ky [116, 114, 117, 101]] := rfl
  have p := (PW.one (ky [116, 114, 117, 101]) (fun s h => wok_key rfl (by decide) (by decide) (by decide) (by decide) h) rfl)
  rw [hW, hT]
  simpa [sg, ky, nmT, nuT, opT, List.append_assoc] using p
theorem pw_3 {name arg : ByteArray} {num tk : Int} {tks : List Ty} {uk : Int} {uks : List Ty} {label place : Int} : PW (tmW (.node 3 name arg num tk tks uk uks label place [])) (tmT (.node 3 name arg num tk tks uk uks label place [])) := by
  have hW : tmW (.node 3 name arg num tk tks uk uks label place []) = [bw [102, 97, 108, 115, 101]] := rfl
  have hT : tmT (.node 3 name arg num tk tks uk uks label place []) = [ky [102, 97, 108, 115, 101]] := rfl
  have p := (PW.one (ky [102, 97, 108, 115, 101]) (fun s h => wok_key rfl (by decide) (by decide) (by decide) (by decide) h) rfl)
  rw [hW, hT]
  simpa [sg, ky, nmT, nuT, opT, List.append_assoc] using p
theorem pw_4 {name arg : ByteArray} {num tk : Int} {tks : List Ty} {uk : Int} {uks : List Ty} {label place : Int} (hn : nameF name = true) (ht : tright (.node tk tks) = true) {a : Tm} (ha : PW (tmW a) (tmT a)) : PW (tmW (.node 4 name arg num tk tks uk uks label place [a])) (tmT (.node 4 name arg num tk tks uk uks label place [a])) := by
  have hW : tmW (.node 4 name arg num tk tks uk uks label place [a]) = [bw [92], name, bw [58]] ++ [bw (tyO (.node tk tks))] ++ [bw [46]] ++ tmA (-1) a := rfl
  have hT : tmT (.node 4 name arg num tk tks uk uks label place [a]) = sg [92] :: nmT name :: sg [58] :: (tyT (.node tk tks) ++ sg [46] :: tmAT (-1) a) := rfl
  have p := ((((((PW.one (sg [92]) (fun s _ => wok_sign (by decide) s) rfl).app (PW.one (nmT name) (fun s h => wok_name hn h) (pt_name hn))).app (PW.one (sg [58]) (fun s _ => wok_sign (by decide) s) rfl)).app (PW.ty (tyG_of _ ht))).app (PW.one (sg [46]) (fun s _ => wok_sign (by decide) s) rfl)).app (pw_A ha (-1)))
  rw [hW, hT]
  simpa [sg, ky, nmT, nuT, opT, List.append_assoc] using p
theorem pw_5 {name arg : ByteArray} {num tk : Int} {tks : List Ty} {uk : Int} {uks : List Ty} {label place : Int} (hn : nameF name = true) (hg : nameF arg = true) (ht : tright (.node tk tks) = true) (hu : tright (.node uk uks) = true) {a : Tm} (ha : PW (tmW a) (tmT a)) : PW (tmW (.node 5 name arg num tk tks uk uks label place [a])) (tmT (.node 5 name arg num tk tks uk uks label place [a])) := by
  have hW : tmW (.node 5 name arg num tk tks uk uks label place [a]) = [bw [114, 101, 99], name, bw [40], arg, bw [58]] ++ [bw (tyO (.node tk tks))] ++ [bw [41], bw [58]] ++ [bw (tyO (.node uk uks))] ++ [bw [46]] ++ tmA (-1) a := rfl
  have hT : tmT (.node 5 name arg num tk tks uk uks label place [a]) = ky [114, 101, 99] :: nmT name :: sg [40] :: nmT arg :: sg [58] :: (tyT (.node tk tks) ++ sg [41] :: sg [58] :: (tyT (.node uk uks) ++ sg [46] :: tmAT (-1) a)) := rfl
  have p := (((((((((((PW.one (ky [114, 101, 99]) (fun s h => wok_key rfl (by decide) (by decide) (by decide) (by decide) h) rfl).app (PW.one (nmT name) (fun s h => wok_name hn h) (pt_name hn))).app (PW.one (sg [40]) (fun s _ => wok_sign (by decide) s) rfl)).app (PW.one (nmT arg) (fun s h => wok_name hg h) (pt_name hg))).app (PW.one (sg [58]) (fun s _ => wok_sign (by decide) s) rfl)).app (PW.ty (tyG_of _ ht))).app (PW.one (sg [41]) (fun s _ => wok_sign (by decide) s) rfl)).app (PW.one (sg [58]) (fun s _ => wok_sign (by decide) s) rfl)).app (PW.ty (tyG_of _ hu))).app (PW.one (sg [46]) (fun s _ => wok_sign (by decide) s) rfl)).app (pw_A ha (-1)))
  rw [hW, hT]
  simpa [sg, ky, nmT, nuT, opT, List.append_assoc] using p
theorem pw_6 {name arg : ByteArray} {num tk : Int} {tks : List Ty} {uk : Int} {uks : List Ty} {label place : Int} {a : Tm} (ha : PW (tmW a) (tmT a)) {b : Tm} (hb : PW (tmW b) (tmT b)) : PW (tmW (.node 6 name arg num tk tks uk uks label place [a, b])) (tmT (.node 6 name arg num tk tks uk uks label place [a, b])) := by
  have hW : tmW (.node 6 name arg num tk tks uk uks label place [a, b]) = tmA 5 a ++ [bw [40]] ++ tmA (-1) b ++ [bw [41]] := rfl
  have hT : tmT (.node 6 name arg num tk tks uk uks label place [a, b]) = tmAT 5 a ++ sg [40] :: (tmAT (-1) b ++ [sg [41]]) := rfl
  have p := ((((pw_A ha 5).app (PW.one (sg [40]) (fun s _ => wok_sign (by decide) s) rfl)).app (pw_A hb (-1))).app (PW.one (sg [41]) (fun s _ => wok_sign (by decide) s) rfl))
  rw [hW, hT]
  simpa [sg, ky, nmT, nuT, opT, List.append_assoc] using p
theorem pw_7 {name arg : ByteArray} {num tk : Int} {tks : List Ty} {uk : Int} {uks : List Ty} {label place : Int} (hn : nameF name = true) (ht : tright (.node tk tks) = true) {a : Tm} (ha : PW (tmW a) (tmT a)) {b : Tm} (hb : PW (tmW b) (tmT b)) : PW (tmW (.node 7 name arg num tk tks uk uks label place [a, b])) (tmT (.node 7 name arg num tk tks uk uks label place [a, b])) := by
  have hW : tmW (.node 7 name arg num tk tks uk uks label place [a, b]) = [bw [108, 101, 116], name, bw [58]] ++ [bw (tyO (.node tk tks))] ++ [bw [61]] ++ tmA (-1) a ++ [bw [105, 110]] ++ tmA (-1) b := rfl
  have hT : tmT (.node 7 name arg num tk tks uk uks label place [a, b]) = ky [108, 101, 116] :: nmT name :: sg [58] :: (tyT (.node tk tks) ++ sg [61] :: (tmAT (-1) a ++ ky [105, 110] :: tmAT (-1) b)) := rfl
  have p := ((((((((PW.one (ky [108, 101, 116]) (fun s h => wok_key rfl (by decide) (by decide) (by decide) (by decide) h) rfl).app (PW.one (nmT name) (fun s h => wok_name hn h) (pt_name hn))).app (PW.one (sg [58]) (fun s _ => wok_sign (by decide) s) rfl)).app (PW.ty (tyG_of _ ht))).app (PW.one (sg [61]) (fun s _ => wok_sign (by decide) s) rfl)).app (pw_A ha (-1))).app (PW.one (ky [105, 110]) (fun s h => wok_key rfl (by decide) (by decide) (by decide) (by decide) h) rfl)).app (pw_A hb (-1)))
  rw [hW, hT]
  simpa [sg, ky, nmT, nuT, opT, List.append_assoc] using p
theorem pw_8 {name arg : ByteArray} {num tk : Int} {tks : List Ty} {uk : Int} {uks : List Ty} {label place : Int} {a : Tm} (ha : PW (tmW a) (tmT a)) {b : Tm} (hb : PW (tmW b) (tmT b)) {c : Tm} (hc : PW (tmW c) (tmT c)) : PW (tmW (.node 8 name arg num tk tks uk uks label place [a, b, c])) (tmT (.node 8 name arg num tk tks uk uks label place [a, b, c])) := by
  have hW : tmW (.node 8 name arg num tk tks uk uks label place [a, b, c]) = [bw [105, 102]] ++ tmA (-1) a ++ [bw [116, 104, 101, 110]] ++ tmA (-1) b ++ [bw [101, 108, 115, 101]] ++ tmA (-1) c := rfl
  have hT : tmT (.node 8 name arg num tk tks uk uks label place [a, b, c]) = ky [105, 102] :: (tmAT (-1) a ++ ky [116, 104, 101, 110] :: (tmAT (-1) b ++ ky [101, 108, 115, 101] :: tmAT (-1) c)) := rfl
  have p := ((((((PW.one (ky [105, 102]) (fun s h => wok_key rfl (by decide) (by decide) (by decide) (by decide) h) rfl).app (pw_A ha (-1))).app (PW.one (ky [116, 104, 101, 110]) (fun s h => wok_key rfl (by decide) (by decide) (by decide) (by decide) h) rfl)).app (pw_A hb (-1))).app (PW.one (ky [101, 108, 115, 101]) (fun s h => wok_key rfl (by decide) (by decide) (by decide) (by decide) h) rfl)).app (pw_A hc (-1)))
  rw [hW, hT]
  simpa [sg, ky, nmT, nuT, opT, List.append_assoc] using p
theorem pw_9 {name arg : ByteArray} {num tk : Int} {tks : List Ty} {uk : Int} {uks : List Ty} {label place : Int} {a : Tm} (ha : PW (tmW a) (tmT a)) {b : Tm} (hb : PW (tmW b) (tmT b)) : PW (tmW (.node 9 name arg num tk tks uk uks label place [a, b])) (tmT (.node 9 name arg num tk tks uk uks label place [a, b])) := by
  have hW : tmW (.node 9 name arg num tk tks uk uks label place [a, b]) = [bw [91]] ++ tmA (-1) a ++ [bw [44]] ++ tmA (-1) b ++ [bw [93]] := rfl
  have hT : tmT (.node 9 name arg num tk tks uk uks label place [a, b]) = sg [91] :: (tmAT (-1) a ++ sg [44] :: (tmAT (-1) b ++ [sg [93]])) := rfl
  have p := (((((PW.one (sg [91]) (fun s _ => wok_sign (by decide) s) rfl).app (pw_A ha (-1))).app (PW.one (sg [44]) (fun s _ => wok_sign (by decide) s) rfl)).app (pw_A hb (-1))).app (PW.one (sg [93]) (fun s _ => wok_sign (by decide) s) rfl))
  rw [hW, hT]
  simpa [sg, ky, nmT, nuT, opT, List.append_assoc] using p
theorem pw_10 {name arg : ByteArray} {num tk : Int} {tks : List Ty} {uk : Int} {uks : List Ty} {label place : Int} {a : Tm} (ha : PW (tmW a) (tmT a)) : PW (tmW (.node 10 name arg num tk tks uk uks label place [a])) (tmT (.node 10 name arg num tk tks uk uks label place [a])) := by
  have hW : tmW (.node 10 name arg num tk tks uk uks label place [a]) = [bw [102, 115, 116]] ++ tmA 4 a := rfl
  have hT : tmT (.node 10 name arg num tk tks uk uks label place [a]) = ky [102, 115, 116] :: tmAT 4 a := rfl
  have p := ((PW.one (ky [102, 115, 116]) (fun s h => wok_key rfl (by decide) (by decide) (by decide) (by decide) h) rfl).app (pw_A ha 4))
  rw [hW, hT]
  simpa [sg, ky, nmT, nuT, opT, List.append_assoc] using p
theorem pw_11 {name arg : ByteArray} {num tk : Int} {tks : List Ty} {uk : Int} {uks : List Ty} {label place : Int} {a : Tm} (ha : PW (tmW a) (tmT a)) : PW (tmW (.node 11 name arg num tk tks uk uks label place [a])) (tmT (.node 11 name arg num tk tks uk uks label place [a])) := by
  have hW : tmW (.node 11 name arg num tk tks uk uks label place [a]) = [bw [115, 110, 100]] ++ tmA 4 a := rfl
  have hT : tmT (.node 11 name arg num tk tks uk uks label place [a]) = ky [115, 110, 100] :: tmAT 4 a := rfl
  have p := ((PW.one (ky [115, 110, 100]) (fun s h => wok_key rfl (by decide) (by decide) (by decide) (by decide) h) rfl).app (pw_A ha 4))
  rw [hW, hT]
  simpa [sg, ky, nmT, nuT, opT, List.append_assoc] using p
theorem pw_12 {name arg : ByteArray} {num tk : Int} {tks : List Ty} {uk : Int} {uks : List Ty} {label place : Int} (ht : tright (.node tk tks) = true) {a : Tm} (ha : PW (tmW a) (tmT a)) : PW (tmW (.node 12 name arg num tk tks uk uks label place [a])) (tmT (.node 12 name arg num tk tks uk uks label place [a])) := by
  have hW : tmW (.node 12 name arg num tk tks uk uks label place [a]) = [bw [105, 110, 108]] ++ [bw [123]] ++ [bw (tyO (.node tk tks))] ++ [bw [125]] ++ tmA 4 a := rfl
  have hT : tmT (.node 12 name arg num tk tks uk uks label place [a]) = ky [105, 110, 108] :: sg [123] :: (tyT (.node tk tks) ++ sg [125] :: tmAT 4 a) := rfl
  have p := (((((PW.one (ky [105, 110, 108]) (fun s h => wok_key rfl (by decide) (by decide) (by decide) (by decide) h) rfl).app (PW.one (sg [123]) (fun s _ => wok_sign (by decide) s) rfl)).app (PW.ty (tyG_of _ ht))).app (PW.one (sg [125]) (fun s _ => wok_sign (by decide) s) rfl)).app (pw_A ha 4))
  rw [hW, hT]
  simpa [sg, ky, nmT, nuT, opT, List.append_assoc] using p
theorem pw_13 {name arg : ByteArray} {num tk : Int} {tks : List Ty} {uk : Int} {uks : List Ty} {label place : Int} (ht : tright (.node tk tks) = true) {a : Tm} (ha : PW (tmW a) (tmT a)) : PW (tmW (.node 13 name arg num tk tks uk uks label place [a])) (tmT (.node 13 name arg num tk tks uk uks label place [a])) := by
  have hW : tmW (.node 13 name arg num tk tks uk uks label place [a]) = [bw [105, 110, 114]] ++ [bw [123]] ++ [bw (tyO (.node tk tks))] ++ [bw [125]] ++ tmA 4 a := rfl
  have hT : tmT (.node 13 name arg num tk tks uk uks label place [a]) = ky [105, 110, 114] :: sg [123] :: (tyT (.node tk tks) ++ sg [125] :: tmAT 4 a) := rfl
  have p := (((((PW.one (ky [105, 110, 114]) (fun s h => wok_key rfl (by decide) (by decide) (by decide) (by decide) h) rfl).app (PW.one (sg [123]) (fun s _ => wok_sign (by decide) s) rfl)).app (PW.ty (tyG_of _ ht))).app (PW.one (sg [125]) (fun s _ => wok_sign (by decide) s) rfl)).app (pw_A ha 4))
  rw [hW, hT]
  simpa [sg, ky, nmT, nuT, opT, List.append_assoc] using p
theorem pw_14 {name arg : ByteArray} {num tk : Int} {tks : List Ty} {uk : Int} {uks : List Ty} {label place : Int} (hn : nameF name = true) (hg : nameF arg = true) {a : Tm} (ha : PW (tmW a) (tmT a)) {b : Tm} (hb : PW (tmW b) (tmT b)) {c : Tm} (hc : PW (tmW c) (tmT c)) : PW (tmW (.node 14 name arg num tk tks uk uks label place [a, b, c])) (tmT (.node 14 name arg num tk tks uk uks label place [a, b, c])) := by
  have hW : tmW (.node 14 name arg num tk tks uk uks label place [a, b, c]) = [bw [99, 97, 115, 101]] ++ tmA (-1) a ++ [bw [111, 102], name, bw [46]] ++ tmA (-1) b ++ [bw [124], arg, bw [46]] ++ tmA (-1) c := rfl
  have hT : tmT (.node 14 name arg num tk tks uk uks label place [a, b, c]) = ky [99, 97, 115, 101] :: (tmAT (-1) a ++ ky [111, 102] :: nmT name :: sg [46] :: (tmAT (-1) b ++ sg [124] :: nmT arg :: sg [46] :: tmAT (-1) c)) := rfl
  have p := ((((((((((PW.one (ky [99, 97, 115, 101]) (fun s h => wok_key rfl (by decide) (by decide) (by decide) (by decide) h) rfl).app (pw_A ha (-1))).app (PW.one (ky [111, 102]) (fun s h => wok_key rfl (by decide) (by decide) (by decide) (by decide) h) rfl)).app (PW.one (nmT name) (fun s h => wok_name hn h) (pt_name hn))).app (PW.one (sg [46]) (fun s _ => wok_sign (by decide) s) rfl)).app (pw_A hb (-1))).app (PW.one (sg [124]) (fun s _ => wok_sign (by decide) s) rfl)).app (PW.one (nmT arg) (fun s h => wok_name hg h) (pt_name hg))).app (PW.one (sg [46]) (fun s _ => wok_sign (by decide) s) rfl)).app (pw_A hc (-1)))
  rw [hW, hT]
  simpa [sg, ky, nmT, nuT, opT, List.append_assoc] using p
theorem pw_16 {name arg : ByteArray} {num tk : Int} {tks : List Ty} {uk : Int} {uks : List Ty} {label place : Int} (ht : tright (.node tk tks) = true) {a : Tm} (ha : PW (tmW a) (tmT a)) : PW (tmW (.node 16 name arg num tk tks uk uks label place [a])) (tmT (.node 16 name arg num tk tks uk uks label place [a])) := by
  have hW : tmW (.node 16 name arg num tk tks uk uks label place [a]) = tmA 0 a ++ [bw [58]] ++ [bw (tyO (.node tk tks))] := rfl
  have hT : tmT (.node 16 name arg num tk tks uk uks label place [a]) = tmAT 0 a ++ sg [58] :: tyT (.node tk tks) := rfl
  have p := (((pw_A ha 0).app (PW.one (sg [58]) (fun s _ => wok_sign (by decide) s) rfl)).app (PW.ty (tyG_of _ ht)))
  rw [hW, hT]
  simpa [sg, ky, nmT, nuT, opT, List.append_assoc] using p
theorem pw_15_42 {arg : ByteArray} {num tk : Int} {tks : List Ty} {uk : Int} {uks : List Ty} {label place : Int} {a : Tm} (ha : PW (tmW a) (tmT a)) {b : Tm} (hb : PW (tmW b) (tmT b)) : PW (tmW (.node 15 ⟨#[42]⟩ arg num tk tks uk uks label place [a, b])) (tmT (.node 15 ⟨#[42]⟩ arg num tk tks uk uks label place [a, b])) := by
  have hW : tmW (.node 15 ⟨#[42]⟩ arg num tk tks uk uks label place [a, b]) = tmA 3 a ++ [⟨#[42]⟩] ++ tmA 4 b := rfl
  have hT : tmT (.node 15 ⟨#[42]⟩ arg num tk tks uk uks label place [a, b]) = tmAT 3 a ++ opT ⟨#[42]⟩ :: tmAT 4 b := rfl
  have p := (((pw_A ha 3).app (PW.one (opT ⟨#[42]⟩) (fun s h => wok_sign (by decide) s) rfl)).app (pw_A hb 4))
  rw [hW, hT]
  simpa [sg, ky, nmT, nuT, opT, List.append_assoc] using p
theorem pw_15_47 {arg : ByteArray} {num tk : Int} {tks : List Ty} {uk : Int} {uks : List Ty} {label place : Int} {a : Tm} (ha : PW (tmW a) (tmT a)) {b : Tm} (hb : PW (tmW b) (tmT b)) : PW (tmW (.node 15 ⟨#[47]⟩ arg num tk tks uk uks label place [a, b])) (tmT (.node 15 ⟨#[47]⟩ arg num tk tks uk uks label place [a, b])) := by
  have hW : tmW (.node 15 ⟨#[47]⟩ arg num tk tks uk uks label place [a, b]) = tmA 3 a ++ [⟨#[47]⟩] ++ tmA 4 b := rfl
  have hT : tmT (.node 15 ⟨#[47]⟩ arg num tk tks uk uks label place [a, b]) = tmAT 3 a ++ opT ⟨#[47]⟩ :: tmAT 4 b := rfl
  have p := (((pw_A ha 3).app (PW.one (opT ⟨#[47]⟩) (fun s h => wok_sign (by decide) s) rfl)).app (pw_A hb 4))
  rw [hW, hT]
  simpa [sg, ky, nmT, nuT, opT, List.append_assoc] using p
theorem pw_15_43 {arg : ByteArray} {num tk : Int} {tks : List Ty} {uk : Int} {uks : List Ty} {label place : Int} {a : Tm} (ha : PW (tmW a) (tmT a)) {b : Tm} (hb : PW (tmW b) (tmT b)) : PW (tmW (.node 15 ⟨#[43]⟩ arg num tk tks uk uks label place [a, b])) (tmT (.node 15 ⟨#[43]⟩ arg num tk tks uk uks label place [a, b])) := by
  have hW : tmW (.node 15 ⟨#[43]⟩ arg num tk tks uk uks label place [a, b]) = tmA 2 a ++ [⟨#[43]⟩] ++ tmA 3 b := rfl
  have hT : tmT (.node 15 ⟨#[43]⟩ arg num tk tks uk uks label place [a, b]) = tmAT 2 a ++ opT ⟨#[43]⟩ :: tmAT 3 b := rfl
  have p := (((pw_A ha 2).app (PW.one (opT ⟨#[43]⟩) (fun s h => wok_sign (by decide) s) rfl)).app (pw_A hb 3))
  rw [hW, hT]
  simpa [sg, ky, nmT, nuT, opT, List.append_assoc] using p
theorem pw_15_45 {arg : ByteArray} {num tk : Int} {tks : List Ty} {uk : Int} {uks : List Ty} {label place : Int} {a : Tm} (ha : PW (tmW a) (tmT a)) {b : Tm} (hb : PW (tmW b) (tmT b)) : PW (tmW (.node 15 ⟨#[45]⟩ arg num tk tks uk uks label place [a, b])) (tmT (.node 15 ⟨#[45]⟩ arg num tk tks uk uks label place [a, b])) := by
  have hW : tmW (.node 15 ⟨#[45]⟩ arg num tk tks uk uks label place [a, b]) = tmA 2 a ++ [⟨#[45]⟩] ++ tmA 3 b := rfl
  have hT : tmT (.node 15 ⟨#[45]⟩ arg num tk tks uk uks label place [a, b]) = tmAT 2 a ++ opT ⟨#[45]⟩ :: tmAT 3 b := rfl
  have p := (((pw_A ha 2).app (PW.one (opT ⟨#[45]⟩) (fun s h => wok_dash h) rfl)).app (pw_A hb 3))
  rw [hW, hT]
  simpa [sg, ky, nmT, nuT, opT, List.append_assoc] using p
theorem pw_15_60 {arg : ByteArray} {num tk : Int} {tks : List Ty} {uk : Int} {uks : List Ty} {label place : Int} {a : Tm} (ha : PW (tmW a) (tmT a)) {b : Tm} (hb : PW (tmW b) (tmT b)) : PW (tmW (.node 15 ⟨#[60]⟩ arg num tk tks uk uks label place [a, b])) (tmT (.node 15 ⟨#[60]⟩ arg num tk tks uk uks label place [a, b])) := by
  have hW : tmW (.node 15 ⟨#[60]⟩ arg num tk tks uk uks label place [a, b]) = tmA 2 a ++ [⟨#[60]⟩] ++ tmA 2 b := rfl
  have hT : tmT (.node 15 ⟨#[60]⟩ arg num tk tks uk uks label place [a, b]) = tmAT 2 a ++ opT ⟨#[60]⟩ :: tmAT 2 b := rfl
  have p := (((pw_A ha 2).app (PW.one (opT ⟨#[60]⟩) (fun s h => wok_sign (by decide) s) rfl)).app (pw_A hb 2))
  rw [hW, hT]
  simpa [sg, ky, nmT, nuT, opT, List.append_assoc] using p
theorem pw_15_61 {arg : ByteArray} {num tk : Int} {tks : List Ty} {uk : Int} {uks : List Ty} {label place : Int} {a : Tm} (ha : PW (tmW a) (tmT a)) {b : Tm} (hb : PW (tmW b) (tmT b)) : PW (tmW (.node 15 ⟨#[61]⟩ arg num tk tks uk uks label place [a, b])) (tmT (.node 15 ⟨#[61]⟩ arg num tk tks uk uks label place [a, b])) := by
  have hW : tmW (.node 15 ⟨#[61]⟩ arg num tk tks uk uks label place [a, b]) = tmA 2 a ++ [⟨#[61]⟩] ++ tmA 2 b := rfl
  have hT : tmT (.node 15 ⟨#[61]⟩ arg num tk tks uk uks label place [a, b]) = tmAT 2 a ++ opT ⟨#[61]⟩ :: tmAT 2 b := rfl
  have p := (((pw_A ha 2).app (PW.one (opT ⟨#[61]⟩) (fun s h => wok_sign (by decide) s) rfl)).app (pw_A hb 2))
  rw [hW, hT]
  simpa [sg, ky, nmT, nuT, opT, List.append_assoc] using p
theorem pw_1 {name arg : ByteArray} {num tk : Int} {tks : List Ty} {uk : Int} {uks : List Ty} {label place : Int} (hn : -9223372036854775808 < num ∧ num ≤ 9223372036854775807) : PW (tmW (.node 1 name arg num tk tks uk uks label place [])) (tmT (.node 1 name arg num tk tks uk uks label place [])) := by
  by_cases h : num < 0
  · have hW : tmW (.node 1 name arg num tk tks uk uks label place []) = [bw [45], digs (-num)] := by simp [tmW, tmJ, h]
    have hT : tmT (.node 1 name arg num tk tks uk uks label place []) = [sg [45], nuT (-num)] := by simp [tmT, tmJT, h]
    rw [hW, hT]
    exact (PW.one (sg [45]) (fun s h => wok_dash h) rfl).app (PW.one (nuT (-num)) (fun s h => wok_num (by omega) (by omega) h) (pt_num (by omega) (by omega)))
  · have hW : tmW (.node 1 name arg num tk tks uk uks label place []) = [digs num] := by simp [tmW, tmJ, h]
    have hT : tmT (.node 1 name arg num tk tks uk uks label place []) = [nuT num] := by simp [tmT, tmJT, h]
    rw [hW, hT]
    exact PW.one (nuT num) (fun s h => wok_num (by omega) (by omega) h) (pt_num (by omega) (by omega))
theorem tmright_names {k name arg num tk tks uk uks label place ks} (h : tmright (.node k name arg num tk tks uk uks label place ks) = true) : (nameK k = true → nameF name = true) ∧ (argK k = true → nameF arg = true) := by
  simp only [tmright, ownRight, Bool.and_eq_true, Bool.or_eq_true, Bool.not_eq_true', decide_eq_true_eq, decide_eq_false_iff_not] at h
  refine ⟨fun q => ?_, fun q => ?_⟩
  · rcases h.1.1.1.1.1.2 with r | r
    · rw [q] at r; cases r
    · exact r
  · rcases h.1.1.1.1.2 with r | r
    · rw [q] at r; cases r
    · exact r
theorem tm_pw (t : Tm) : tmright t = true → tmInR t → tmBad t = false → PW (tmW t) (tmT t) := by
  induction t using Tm.ind with
  | _ k name arg num tk tks uk uks label place ks ih =>
  intro hr hn hb
  obtain ⟨b1, b2, b3⟩ := tmBad_own hb
  have hv := tmright_valid hr
  have hl := tmright_len hr
  have ho := tmright_own hr
  have hop := op_names hr
  have hnm := tmright_names hr
  have hk : ∀ t ∈ ks, PW (tmW t) (tmT t) := fun t ht => ih t ht (tmright_kid hr ht) (tmInRs_mem ks t ht hn.2) (tmBads_mem' b3 ht)
  have hn1 : NumR num := hn.1
  unfold NumR at hn1
  have hT := fun q => tcheck_right (ho.1 q)
  have hU := fun q => tcheck_right (ho.2 q)
  clear ih hb b3 hn hr
  rcases kinds k hv with rfl | rfl | rfl | rfl | rfl | rfl | rfl | rfl | rfl | rfl | rfl | rfl | rfl | rfl | rfl | rfl | rfl | rfl
  · obtain rfl := len0 hl; exact pw_0 (hnm.1 rfl)
  · obtain rfl := len0 hl; exact pw_1 ⟨by have := b2 rfl; omega, hn1.2⟩
  · obtain rfl := len0 hl; exact pw_2
  · obtain rfl := len0 hl; exact pw_3
  · obtain ⟨x, rfl⟩ := len1 hl; exact pw_4 (hnm.1 rfl) (hT rfl) (hk x (by simp))
  · obtain ⟨x, rfl⟩ := len1 hl; exact pw_5 (hnm.1 rfl) (hnm.2 rfl) (hT rfl) (hU rfl) (hk x (by simp))
  · obtain ⟨x, y, rfl⟩ := len2' hl; exact pw_6 (hk x (by simp)) (hk y (by simp))
  · obtain ⟨x, y, rfl⟩ := len2' hl; exact pw_7 (hnm.1 rfl) (hT rfl) (hk x (by simp)) (hk y (by simp))
  · obtain ⟨x, y, z, rfl⟩ := len3 hl; exact pw_8 (hk x (by simp)) (hk y (by simp)) (hk z (by simp))
  · obtain ⟨x, y, rfl⟩ := len2' hl; exact pw_9 (hk x (by simp)) (hk y (by simp))
  · obtain ⟨x, rfl⟩ := len1 hl; exact pw_10 (hk x (by simp))
  · obtain ⟨x, rfl⟩ := len1 hl; exact pw_11 (hk x (by simp))
  · obtain ⟨x, rfl⟩ := len1 hl; exact pw_12 (hT rfl) (hk x (by simp))
  · obtain ⟨x, rfl⟩ := len1 hl; exact pw_13 (hT rfl) (hk x (by simp))
  · obtain ⟨x, y, z, rfl⟩ := len3 hl; exact pw_14 (hnm.1 rfl) (hnm.2 rfl) (hk x (by simp)) (hk y (by simp)) (hk z (by simp))
  · obtain ⟨x, y, rfl⟩ := len2' hl
    have hx := hk x (by simp)
    have hy := hk y (by simp)
    rcases hop rfl with rfl | rfl | rfl | rfl | rfl | rfl
    · exact pw_15_43 hx hy
    · exact pw_15_45 hx hy
    · exact pw_15_42 hx hy
    · exact pw_15_47 hx hy
    · exact pw_15_60 hx hy
    · exact pw_15_61 hx hy
  · obtain ⟨x, rfl⟩ := len1 hl; exact pw_16 (hT rfl) (hk x (by simp))
  · exact absurd rfl b1
end Go.Proofs.YtmaokphbfjpodaaGreatDoor.E
