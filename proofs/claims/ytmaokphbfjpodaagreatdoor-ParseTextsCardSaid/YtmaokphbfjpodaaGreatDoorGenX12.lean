/- Texts, merged: Sc1, Sc2, Sc7, Sc3, Sc4. No conditions. -/
import Derived.Test.YtmaokphbfjpodaaGreatDoorGenX11
import Derived.Laws.RangeAny
import Derived.Test.YtmaokphbfjpodaaGreatDoorGenX3
import Derived.Test.YtmaokphbfjpodaaGreatDoorEngX3
import Derived.Lib.RuneCountTail
import Derived.Test.YtmaokphbfjpodaaGreatDoorEngX2
/- Plain facts: blanks and remarks, rune by rune. No conditions. -/
set_option linter.unusedVariables false
set_option linter.unusedSimpArgs false
namespace Go.Proofs.YtmaokphbfjpodaaGreatDoor.E
open Go

theorem getb_of {s : ByteArray} {i : Nat} (h : i < s.size) : s.get! i = s[i] := by
  unfold ByteArray.get!
  exact getElem!_pos s.data i h
theorem decode_wide (s : ByteArray) (pos : Nat) (h : pos < s.size) : pos + (Utf8.decode s pos).2 ≤ s.size ∧ (128 ≤ (s.get! pos).toNat → ∀ k, k < (Utf8.decode s pos).2 → 128 ≤ (s.get! (pos + k)).toNat) := by
  unfold Utf8.decode
  simp only [Nat.add_zero]
  split
  · refine ⟨h, fun ha k hk => ?_⟩
    obtain rfl : k = 0 := by omega
    exact ha
  · split
    · rename_i h1 h2
      simp only [Bool.and_eq_true, decide_eq_true_eq, beq_iff_eq] at h2
      split
      · refine ⟨by show pos + 2 ≤ _; omega, fun ha k hk => ?_⟩
        have : k = 0 ∨ k = 1 := by have : k < 2 := hk; omega
        rcases this with rfl | rfl
        · exact ha
        · omega
      · refine ⟨h, fun ha k hk => ?_⟩
        obtain rfl : k = 0 := by have : k < 1 := hk; omega
        exact ha
    · split
      · rename_i h1 h2 h3
        simp only [Bool.and_eq_true, decide_eq_true_eq, beq_iff_eq] at h3
        split
        · refine ⟨by show pos + 3 ≤ _; omega, fun ha k hk => ?_⟩
          have : k = 0 ∨ k = 1 ∨ k = 2 := by have : k < 3 := hk; omega
          rcases this with rfl | rfl | rfl
          · exact ha
          · omega
          · omega
        · refine ⟨h, fun ha k hk => ?_⟩
          obtain rfl : k = 0 := by have : k < 1 := hk; omega
          exact ha
      · split
        · rename_i h1 h2 h3 h4
          simp only [Bool.and_eq_true, decide_eq_true_eq, beq_iff_eq] at h4
          split
          · refine ⟨by show pos + 4 ≤ _; omega, fun ha k hk => ?_⟩
            have : k = 0 ∨ k = 1 ∨ k = 2 ∨ k = 3 := by have : k < 4 := hk; omega
            rcases this with rfl | rfl | rfl | rfl
            · exact ha
            · omega
            · omega
            · omega
          · refine ⟨h, fun ha k hk => ?_⟩
            obtain rfl : k = 0 := by have : k < 1 := hk; omega
            exact ha
        · refine ⟨h, fun ha k hk => ?_⟩
          obtain rfl : k = 0 := by have : k < 1 := hk; omega
          exact ha
/-- The bytes from a place on. -/
def restL (s : ByteArray) (p : Nat) : List UInt8 := s.data.toList.drop p
theorem restL_get {s : ByteArray} {p : Nat} (h : p < s.size) : restL s p = s.get! p :: restL s (p + 1) := by
  rw [getb_of h]
  unfold restL
  rw [List.drop_eq_getElem_cons (by simpa using h)]
  rfl
theorem restL_end {s : ByteArray} {p : Nat} (h : ¬ p < s.size) : restL s p = [] := by
  unfold restL
  rw [List.drop_eq_nil_iff]
  show s.data.size ≤ p
  have : s.data.size = s.size := rfl
  omega
theorem skipL_high {s : ByteArray} : ∀ (n p : Nat), p + n ≤ s.size → (∀ k, k < n → 128 ≤ (s.get! (p + k)).toNat) → skipL true (restL s p) = n + skipL true (restL s (p + n))
  | 0, p, _, _ => by simp
  | n + 1, p, h, g => by
    have h0 := g 0 (by omega)
    rw [restL_get (by omega), skipL, if_neg (by rintro e; rw [Nat.add_zero, e] at h0; exact absurd h0 (by decide)), if_pos rfl, skipL_high n (p + 1) (by omega) (fun k hk => by have := g (k + 1) (by omega); rw [show p + 1 + k = p + (k + 1) by omega]; exact this)]
    rw [show p + 1 + n = p + (n + 1) by omega]
    omega
/-- One rune of blanks and remarks. -/
theorem sk_dec (s : ByteArray) (q : Nat) (hq : q < s.size) (r : Bool) : q + (Utf8.decode s q).2 ≤ s.size ∧ 1 ≤ (Utf8.decode s q).2 ∧
    skipL r (restL s q) = (if (Utf8.decode s q).1 = 10 then (Utf8.decode s q).2 + skipL false (restL s (q + (Utf8.decode s q).2)) else if r = true then (Utf8.decode s q).2 + skipL true (restL s (q + (Utf8.decode s q).2))
      else if (Utf8.decode s q).1 = 32 ∨ (Utf8.decode s q).1 = 9 ∨ (Utf8.decode s q).1 = 13 then (Utf8.decode s q).2 + skipL false (restL s (q + (Utf8.decode s q).2)) else if (Utf8.decode s q).1 = 35 then (Utf8.decode s q).2 + skipL true (restL s (q + (Utf8.decode s q).2)) else 0) := by
  have hw := decode_wide s q hq
  have hg := getb_of hq
  have eqb : ∀ n : Nat, n < 256 → ((s.get! q) = UInt8.ofNat n ↔ (s.get! q).toNat = n) := fun n hn => by
    constructor
    · intro h
      rw [h]
      simp
      omega
    · intro h
      rw [← h]
      simp
  by_cases hb : (s.get! q).toNat < 128
  · have hd := decode_ascii s q hq (by rw [← hg]; exact hb)
    rw [← hg] at hd
    rw [hd]
    refine ⟨by show q + 1 ≤ _; omega, Nat.le_refl _, ?_⟩
    rw [restL_get hq, skipL]
    have e10 := eqb 10 (by decide)
    have e32 := eqb 32 (by decide)
    have e9 := eqb 9 (by decide)
    have e13 := eqb 13 (by decide)
    have e35 := eqb 35 (by decide)
    simp only [show (10 : UInt8) = UInt8.ofNat 10 from rfl, show (32 : UInt8) = UInt8.ofNat 32 from rfl, show (9 : UInt8) = UInt8.ofNat 9 from rfl, show (13 : UInt8) = UInt8.ofNat 13 from rfl, show (35 : UInt8) = UInt8.ofNat 35 from rfl, e10, e32, e9, e13, e35]
  · have hh := decode_high s q hq (by rw [← hg]; omega)
    have h10 : ¬ (Utf8.decode s q).1 = 10 := by omega
    refine ⟨hw.1, hh.2, ?_⟩
    rw [if_neg h10]
    cases r with
    | true =>
      rw [if_pos rfl]
      exact skipL_high _ q hw.1 (hw.2 (by omega))
    | false =>
      rw [if_neg (by decide), if_neg (by omega), if_neg (by omega), restL_get hq, skipL]
      have e10 := eqb 10 (by decide)
      have e32 := eqb 32 (by decide)
      have e9 := eqb 9 (by decide)
      have e13 := eqb 13 (by decide)
      have e35 := eqb 35 (by decide)
      have n10 : ¬ s.get! q = 10 := fun h => by have := e10.1 h; omega
      have n32 : ¬ s.get! q = 32 := fun h => by have := e32.1 h; omega
      have n9 : ¬ s.get! q = 9 := fun h => by have := e9.1 h; omega
      have n13 : ¬ s.get! q = 13 := fun h => by have := e13.1 h; omega
      have n35 : ¬ s.get! q = 35 := fun h => by have := e35.1 h; omega
      rw [if_neg n10, if_neg (by decide), if_neg (fun h => h.elim n32 (fun h => h.elim n9 n13)), if_neg n35]
end Go.Proofs.YtmaokphbfjpodaaGreatDoor.E

/- Walks: scan.skip, span, fault, put. No conditions. -/
set_option linter.unusedVariables false
set_option linter.unusedSimpArgs false
namespace Go.Proofs.YtmaokphbfjpodaaGreatDoor.E
open Go

def scObj (s : ByteArray) (p : Nat) (ws : List Wd) : List AObj :=
  [.var [.d (.str s), .d (.int .i64 p), .own 1 (wrows ws).length], .row 57 4 (wrows ws)]
structure SkI (s : ByteArray) (p : Nat) where
  pos : Nat
  r : Bool
  hpos : p + pos ≤ s.size
  h : skipL false (restL s p) = pos + skipL r (restL s (p + pos))
theorem SkI.step {s : ByteArray} {p : Nat} (x : SkI s p) (hp : p + x.pos < s.size) {r' : Bool} {n : Nat} (hn : p + (x.pos + n) ≤ s.size) (h : skipL x.r (restL s (p + x.pos)) = n + skipL r' (restL s (p + x.pos + n))) :
    ∃ y : SkI s p, y.pos = x.pos + n ∧ y.r = r' :=
  ⟨⟨x.pos + n, r', hn, by rw [x.h, h, show p + (x.pos + n) = p + x.pos + n by omega]; omega⟩, rfl, rfl⟩
set_option maxRecDepth 10000 in
set_option maxHeartbeats 1000000 in
theorem skip_call (s : ByteArray) (p : Nat) (ws : List Wd) (h : p ≤ s.size) (hs : s.size ≤ 1000000) : ACall Tryz.prog 34 [.c (.ptr 0 0)] (scObj s p ws) (fun o σ => o = .ret (.tup []) ∧ σ = scObj s (p + skipL false (restL s p)) ws) := by
  unfold scObj
  refine ACall.body tab_ok (ρ := 0) (N := 50) Tryz.func34 rfl rfl rfl rfl rfl ?_
  repeat' first | refine AW.seq ?_ | refine AW.block ?_ | (refine (_root_.id : AW _ _ _ (.region 1 _ true) _ _ → _) ?_; refine AW.draw (id := 1) tab_ok mixed [0, 1, 2, 3, 4, 5, 6, 7, 8, 9] (by kernel_rfl) ?_; conv => whnf) | ((first | refine AW.region tab_ok ?_ | refine AW.cond ?_ | refine AW.skip ?_ | refine AW.ret ?_ | refine AW.exit ?_); conv => whnf) | ((first | refine And.intro (@rfl Val _) ?_ | refine And.intro (by decide) ?_ | refine cs (fun _ => ?_) (fun _ => ?_)) <;> conv => whnf)
  refine ⟨⟨by omega, by omega⟩, ?_⟩
  conv => whnf
  repeat' first | refine AW.seq ?_ | refine AW.block ?_ | (refine (_root_.id : AW _ _ _ (.region 1 _ true) _ _ → _) ?_; refine AW.draw (id := 1) tab_ok mixed [0, 1, 2, 3, 4, 5, 6, 7, 8, 9] (by kernel_rfl) ?_; conv => whnf) | ((first | refine AW.region tab_ok ?_ | refine AW.cond ?_ | refine AW.skip ?_ | refine AW.ret ?_ | refine AW.exit ?_); conv => whnf) | ((first | refine And.intro (@rfl Val _) ?_ | refine And.intro (by decide) ?_ | refine cs (fun _ => ?_) (fun _ => ?_)) <;> conv => whnf)
  refine AW.loop (ι := SkI s p) (fun x => ⟨50, [(14, .c (.ptr 2 0)), (2, .c (.d (.bool x.r))), (0, .c (.ptr 0 0))], [.var [.d (.str s), .d (.int .i64 p), .own 1 (wrows ws).length], .row 57 4 (wrows ws), .it (.d (.str (s.extract p s.size))) x.pos [] 0], []⟩)
    (fun x => s.size - p - x.pos) ⟨0, false, by omega, by simp⟩ 3 (fun _ => rfl) (Nat.le_of_ble_eq_true rfl) ⟨⟨rfl, rfl, rfl, trivial⟩, rfl, rfl, ⟨[], rfl⟩, rfl⟩ (fun x => ?_)
  have hsz : (s.extract p s.size).size = s.size - p := by simp
  have hx := x.hpos
  repeat' first | refine AW.seq ?_ | refine AW.block ?_ | (refine (_root_.id : AW _ _ _ (.region 1 _ true) _ _ → _) ?_; refine AW.draw (id := 1) tab_ok mixed [0, 1, 2, 3, 4, 5, 6, 7, 8, 9] (by kernel_rfl) ?_; conv => whnf) | ((first | refine AW.region tab_ok ?_ | refine AW.cond ?_ | refine AW.skip ?_ | refine AW.ret ?_ | refine AW.exit ?_); conv => whnf) | ((first | refine And.intro (@rfl Val _) ?_ | refine And.intro (by decide) ?_ | refine cs (fun _ => ?_) (fun _ => ?_)) <;> conv => whnf)
  have hlt : x.pos < (s.extract p s.size).size ↔ p + x.pos < s.size := by rw [hsz]; omega
  refine ⟨fun hp => ?_, fun hp => ?_⟩
  · have hq := hlt.1 hp
    have hd : Utf8.decode (s.extract p s.size) x.pos = Utf8.decode s (p + x.pos) := Lib.tail_decode s p x.pos
    obtain ⟨g1, g2, g3⟩ := sk_dec s (p + x.pos) hq x.r
    rw [hd]
    generalize Utf8.decode s (p + x.pos) = d at g1 g2 g3
    obtain ⟨c, n⟩ := d
    simp only at g1 g2 g3 ⊢
    have eb : ∀ k : Nat, ((c : Int) == (k : Int)) = decide (c = k) := fun k => by
      by_cases h : c = k
      · subst h; simp
      · simp [h]
        omega
    have g4 : skipL x.r (restL s (p + x.pos)) = bif ((c : Int) == 10) then n + skipL false (restL s (p + x.pos + n)) else bif x.r then n + skipL true (restL s (p + x.pos + n)) else
        bif ((c : Int) == 32) || (((c : Int) == 9) || ((c : Int) == 13)) then n + skipL false (restL s (p + x.pos + n)) else bif ((c : Int) == 35) then n + skipL true (restL s (p + x.pos + n)) else 0 := by
      rw [g3, show ((c : Int) == 10) = decide (c = 10) from eb 10, show ((c : Int) == 32) = decide (c = 32) from eb 32, show ((c : Int) == 9) = decide (c = 9) from eb 9, show ((c : Int) == 13) = decide (c = 13) from eb 13, show ((c : Int) == 35) = decide (c = 35) from eb 35]
      simp only [Bool.cond_eq_ite, Bool.or_eq_true, decide_eq_true_eq]
    clear g3 eb
    have hstep := fun r' (h : skipL x.r (restL s (p + x.pos)) = n + skipL r' (restL s (p + x.pos + n))) => x.step hq (r' := r') (n := n) (by omega) h
    conv => whnf
    repeat' first | refine AW.seq ?_ | refine AW.block ?_ | (refine (_root_.id : AW _ _ _ (.region 1 _ true) _ _ → _) ?_; refine AW.draw (id := 1) tab_ok mixed [0, 1, 2, 3, 4, 5, 6, 7, 8, 9] (by kernel_rfl) ?_; conv => whnf) | ((first | refine AW.region tab_ok ?_ | refine AW.cond ?_ | refine AW.skip ?_ | refine AW.ret ?_ | refine AW.exit ?_); conv => whnf) | ((first | refine And.intro (@rfl Val _) ?_ | refine And.intro (by decide) ?_ | refine cs (fun _ => ?_) (fun _ => ?_)) <;> conv => whnf)
    all_goals first
      | (obtain ⟨y, y1, y2⟩ := hstep false (by rw [g4]; simp only [*, cond_true, cond_false, Bool.true_or, Bool.or_true, Bool.false_or])
         refine ⟨y, ⟨⟨rfl, by rw [y2]; first | rfl | (show Val.c (.d (.bool x.r)) = _; rw [‹x.r = false›]), rfl, trivial⟩, rfl, by first | rfl | rw [y1], ⟨[], by rw [y1]; rfl⟩, rfl⟩, ?_⟩
         show s.size - p - y.pos < s.size - p - x.pos
         omega)
      | (obtain ⟨y, y1, y2⟩ := hstep true (by rw [g4]; simp only [*, cond_true, cond_false, Bool.true_or, Bool.or_true, Bool.false_or])
         refine ⟨y, ⟨⟨rfl, by rw [y2]; first | rfl | (show Val.c (.d (.bool x.r)) = _; rw [‹x.r = true›]), rfl, trivial⟩, rfl, by first | rfl | rw [y1], ⟨[], by rw [y1]; rfl⟩, rfl⟩, ?_⟩
         show s.size - p - y.pos < s.size - p - x.pos
         omega)
      | (have e0 : skipL x.r (restL s (p + x.pos)) = 0 := by rw [g4]; simp only [*, cond_true, cond_false, Bool.true_or, Bool.or_true, Bool.false_or]
         have e1 := x.h
         rw [e0, Nat.add_zero] at e1
         rw [wrap64 (by omega) (by omega), e1]
         exact ⟨rfl, rfl⟩)
     
  · conv => whnf
    repeat' first | refine AW.seq ?_ | refine AW.block ?_ | (refine (_root_.id : AW _ _ _ (.region 1 _ true) _ _ → _) ?_; refine AW.draw (id := 1) tab_ok mixed [0, 1, 2, 3, 4, 5, 6, 7, 8, 9] (by kernel_rfl) ?_; conv => whnf) | ((first | refine AW.region tab_ok ?_ | refine AW.cond ?_ | refine AW.skip ?_ | refine AW.ret ?_ | refine AW.exit ?_); conv => whnf) | ((first | refine And.intro (@rfl Val _) ?_ | refine And.intro (by decide) ?_ | refine cs (fun _ => ?_) (fun _ => ?_)) <;> conv => whnf)
    have hq : ¬ p + x.pos < s.size := fun h => hp (hlt.2 h)
    have e1 := x.h
    rw [restL_end hq, skipL, Nat.add_zero] at e1
    rw [show s.size = p + skipL false (restL s p) by omega]
    exact ⟨rfl, rfl⟩
end Go.Proofs.YtmaokphbfjpodaaGreatDoor.E

/- Plain facts of the scanner. No conditions. -/
set_option linter.unusedVariables false
set_option linter.unusedSimpArgs false
namespace Go.Proofs.YtmaokphbfjpodaaGreatDoor.E
open Go

theorem spanL_le (b : Bool) : ∀ l : List UInt8, spanL b l ≤ l.length
  | [] => Nat.le_refl _
  | c :: l => by
    have := spanL_le b l
    unfold spanL
    split <;> simp <;> omega
theorem wordL_letter {p : Nat} {c : UInt8} {l : List UInt8} (h : letterF c.toNat = true) : wordL p (c :: l) =
    (if ((c :: l).take (spanL true (c :: l))).toArray.size > 64 then .error (3, ⟨((c :: l).take (spanL true (c :: l))).toArray⟩) else if keyF ⟨((c :: l).take (spanL true (c :: l))).toArray⟩ = true then .ok ⟨3, ⟨((c :: l).take (spanL true (c :: l))).toArray⟩, 0, p⟩ else .ok ⟨1, ⟨((c :: l).take (spanL true (c :: l))).toArray⟩, 0, p⟩) := by
  unfold wordL
  simp only
  rw [if_pos h]
  rfl
def nextLetter : List UInt8 → Bool
  | d :: _ => letterF d.toNat
  | [] => false
theorem wordL_digit {p : Nat} {c : UInt8} {l : List UInt8} (h : letterF c.toNat = false) (h2 : digitF c.toNat = true) : wordL p (c :: l) =
    (match numL 0 ((c :: l).take (spanL false (c :: l))) with
      | none => .error (3, ⟨((c :: l).take (spanL false (c :: l))).toArray⟩)
      | some v => if (spanL false (c :: l) > 1 ∧ c = 48) ∨ nextLetter ((c :: l).drop (spanL false (c :: l))) = true then .error (10, ⟨((c :: l).take (spanL false (c :: l))).toArray⟩) else .ok ⟨2, ⟨((c :: l).take (spanL false (c :: l))).toArray⟩, v, p⟩) := by
  unfold wordL
  simp only
  rw [if_neg (by rw [h]; decide), if_pos h2]
  rfl
theorem wordL_sign {p : Nat} {c : UInt8} {l : List UInt8} (h : letterF c.toNat = false) (h2 : digitF c.toNat = false) (h3 : c ≠ 45) (h4 : c ∈ signsF) : wordL p (c :: l) = .ok ⟨4, ⟨#[c]⟩, 0, p⟩ := by
  unfold wordL
  simp only
  rw [if_neg (by rw [h]; decide), if_neg (by rw [h2]; decide), if_neg h3, if_pos h4]
theorem wordL_none {p : Nat} {c : UInt8} {l : List UInt8} (h : letterF c.toNat = false) (h2 : digitF c.toNat = false) (h3 : c ≠ 45) (h4 : c ∉ signsF) : wordL p (c :: l) = .error (10, ⟨#[c]⟩) := by
  unfold wordL
  simp only
  rw [if_neg (by rw [h]; decide), if_neg (by rw [h2]; decide), if_neg h3, if_neg h4]
theorem wordL_arrow {p : Nat} {l : List UInt8} : wordL p (45 :: 62 :: l) = .ok ⟨4, ⟨#[45, 62]⟩, 0, p⟩ := rfl
theorem wordL_dash {p : Nat} {l : List UInt8} (h : ∀ r, l ≠ 62 :: r) : wordL p (45 :: l) = .ok ⟨4, ⟨#[45]⟩, 0, p⟩ := by
  unfold wordL
  simp only
  rw [if_neg (by decide), if_neg (by decide)]
  simp only [if_true]
theorem skipL_le (b : Bool) : ∀ l : List UInt8, skipL b l ≤ l.length
  | [] => Nat.le_refl _
  | c :: l => by
    have h1 := skipL_le false l
    have h2 := skipL_le true l
    unfold skipL
    repeat' split
    all_goals simp <;> omega
theorem skipL_again : ∀ (l : List UInt8) (b : Bool), skipL false (l.drop (skipL b l)) = 0
  | [], b => by simp [skipL]
  | c :: l, b => by
    have h1 := skipL_again l false
    have h2 := skipL_again l true
    have hd : ∀ n, (c :: l).drop (1 + n) = l.drop n := fun n => by rw [Nat.add_comm]; rfl
    rw [skipL]
    split
    · rw [hd]; exact h1
    · rename_i hc
      split
      · rw [hd]; exact h2
      · rename_i hb
        split
        · rw [hd]; exact h1
        · split
          · rw [hd]; exact h2
          · rename_i h3 h4
            simp only [List.drop_zero, skipL, if_neg hc, if_neg h3, if_neg h4, Bool.false_eq_true, if_false]
theorem ite_ok {P : Prop} [Decidable P] {α β : Type} {a : α} {b w : β} (h : (if P then (.error a : Except α β) else .ok b) = .ok w) : b = w := by
  by_cases hp : P
  · rw [if_pos hp] at h; cases h
  · rw [if_neg hp] at h; cases h; rfl
theorem wordL_ok {p : Nat} {l : List UInt8} {w : Wd} (h : wordL p l = .ok w) : 1 ≤ w.text.size ∧ w.text.size ≤ l.length ∧ w.place = p := by
  cases l with
  | nil => cases h
  | cons c l =>
    have hs := fun b => spanL_le b (c :: l)
    have hz : ∀ n, n ≤ (c :: l).length → (ByteArray.mk ((c :: l).take n).toArray).size = n := fun n hn => by
      show ((c :: l).take n).toArray.size = n
      simp at hn ⊢; omega
    by_cases h1 : letterF c.toNat = true
    · have hp : 1 ≤ spanL true (c :: l) := by rw [spanL, if_pos (by rw [h1]; simp)]; omega
      rw [wordL_letter h1] at h
      split at h
      · cases h
      · split at h <;> (cases h; exact ⟨by rw [hz _ (hs true)]; exact hp, by rw [hz _ (hs true)]; exact hs true, rfl⟩)
    · have h1 : letterF c.toNat = false := by simpa using h1
      by_cases h2 : digitF c.toNat = true
      · have hp : 1 ≤ spanL false (c :: l) := by rw [spanL, if_pos (by rw [h2]; simp)]; omega
        rw [wordL_digit h1 h2] at h
        split at h
        · cases h
        · rename_i v hv
          have e := ite_ok h
          subst e
          exact ⟨by rw [hz _ (hs false)]; exact hp, by rw [hz _ (hs false)]; exact hs false, rfl⟩
      · have h2 : digitF c.toNat = false := by simpa using h2
        unfold wordL at h
        simp only at h
        rw [if_neg (by rw [h1]; decide), if_neg (by rw [h2]; decide)] at h
        split at h
        · split at h
          · cases h
            exact ⟨by show 1 ≤ 2; omega, by show 2 ≤ _; simp, rfl⟩
          · cases h
            exact ⟨by show 1 ≤ 1; omega, by show 1 ≤ _; simp, rfl⟩
        · split at h
          · cases h
            exact ⟨by show 1 ≤ 1; omega, by show 1 ≤ _; simp, rfl⟩
          · cases h
theorem scanL_skip (n p : Nat) (l : List UInt8) : scanL (n + 1) p l = scanL (n + 1) (p + skipL false l) (l.drop (skipL false l)) := by
  rw [scanL, scanL]
  simp only [skipL_again, List.drop_zero, Nat.add_zero]
theorem scanL_step (n p : Nat) (l : List UInt8) (h : skipL false l = 0) (hl : l ≠ []) : scanL (n + 1) p l = match wordL p l with
    | .error (e, w) => .error (e, (p : Nat), w)
    | .ok w => match scanL n (p + w.text.size) (l.drop w.text.size) with
      | .error x => .error x
      | .ok l => .ok (w :: l) := by
  rw [scanL]
  simp only [h, List.drop_zero, Nat.add_zero]
  cases l with
  | nil => exact absurd rfl hl
  | cons c l => rfl
theorem scanL_nil (n p : Nat) : scanL (n + 1) p [] = .ok [] := rfl
theorem spanL_all (b : Bool) : ∀ l : List UInt8, ∀ c ∈ l.take (spanL b l), (digitF c.toNat || (b && letterF c.toNat)) = true
  | [], c, h => by simp at h
  | d :: l, c, h => by
    unfold spanL at h
    split at h
    · rename_i hd
      rw [show 1 + spanL b l = spanL b l + 1 by omega, List.take_succ_cons] at h
      rcases List.mem_cons.1 h with rfl | h
      · exact hd
      · exact spanL_all b l c h
    · simp at h
theorem byteAt_list {w : ByteArray} {c : UInt8} {l : List UInt8} (e : w.data.toList = c :: l) : byteAt w 0 = ((c.toNat : Nat) : Int) := by
  unfold byteAt
  rw [e]
  rfl
end Go.Proofs.YtmaokphbfjpodaaGreatDoor.E

/- Walks: scan.fault, put, span. No conditions. -/
set_option linter.unusedVariables false
set_option linter.unusedSimpArgs false
namespace Go.Proofs.YtmaokphbfjpodaaGreatDoor.E
open Go

def faultD (e a : Int) (w : ByteArray) : List DV := [.int .i64 e, .int .i64 a, .str w]
theorem wrows_app (l m : List Wd) : wrows (l ++ m) = wrows l ++ wrows m := by simp [wrows]
set_option maxRecDepth 10000 in
theorem put_call4 (s : ByteArray) (p : Nat) (ws : List Wd) (k : Int) (w : ByteArray) (n : Int) (hp : p + w.size ≤ 1000000) (hw : ws.length ≤ 1000000) :
    ACall Tryz.prog 65 [.c (.ptr 0 0), .c (.d (.int .i8 k)), .c (.d (.str w)), .c (.d (.int .i64 n))] (scObj s p ws) (fun o σ => o = .ret (.c (.d .nilp)) ∧ σ = scObj s (p + w.size) (ws ++ [⟨k, w, n, p⟩])) := by
  unfold scObj
  rw [wrows_app, List.length_append]
  refine ACall.body tab_ok (ρ := 0) (N := 35) Tryz.func65 rfl rfl rfl rfl rfl ?_
  repeat' first | ((refine ⟨⟨rfl, by simp only [bnd, wrows_len, List.length_cons, List.length_nil]; omega⟩, ?_⟩; conv => whnf)) | refine AW.seq ?_ | refine AW.block ?_ | (refine (_root_.id : AW _ _ _ (.region 1 _ true) _ _ → _) ?_; refine AW.draw (id := 1) tab_ok mixed [0, 1, 2, 3, 4, 5, 6, 7, 8, 9, 10, 11, 12, 13, 14, 15, 16, 17] (by kernel_rfl) ?_; conv => whnf) | ((first | refine AW.region tab_ok ?_ | refine AW.cond ?_ | refine AW.skip ?_ | refine AW.ret ?_ | refine AW.exit ?_); conv => whnf) | ((first | refine And.intro (@rfl Val _) ?_ | refine And.intro (by decide) ?_ | refine cs (fun _ => ?_) (fun _ => ?_)) <;> conv => whnf)
  all_goals first | (rw [wrap64 (by omega) (by omega)]; exact ⟨rfl, rfl⟩)
set_option maxRecDepth 10000 in
theorem fault_call (s : ByteArray) (p : Nat) (ws : List Wd) (e : Int) (w : ByteArray) :
    ACall Tryz.prog 63 [.c (.ptr 0 0), .c (.d (.int .i64 e)), .c (.d (.str w))] (scObj s p ws) (fun o σ => o = .ret (.c (.d (.rp 0 (faultD e p w)))) ∧ σ = scObj s p ws) := by
  unfold scObj
  refine ACall.body tab_ok (ρ := 0) (N := 15) Tryz.func63 rfl rfl rfl rfl rfl ?_
  repeat' first | refine AW.seq ?_ | refine AW.block ?_ | ((first | refine AW.region tab_ok ?_ | refine AW.cond ?_ | refine AW.skip ?_ | refine AW.ret ?_ | refine AW.exit ?_); conv => whnf) | ((first | refine And.intro (@rfl Val _) ?_ | refine And.intro (by decide) ?_ | refine cs (fun _ => ?_) (fun _ => ?_)) <;> conv => whnf)
  all_goals first | exact ⟨rfl, rfl⟩
theorem byteAt_get {s : ByteArray} {q : Nat} (h : q < s.size) : byteAt s (q : Nat) = ((s.get! q).toNat : Int) := by
  unfold byteAt
  rw [getb_of h, show ((q : Nat) : Int).toNat = q from rfl, List.getElem?_eq_getElem (by simpa using h)]
  rfl
structure SpI (s : ByteArray) (p : Nat) (b : Bool) where
  n : Nat
  hn : p + n ≤ s.size
  h : spanL b (restL s p) = n + spanL b (restL s (p + n))
set_option maxRecDepth 10000 in
set_option maxHeartbeats 1000000 in
theorem span_call (s : ByteArray) (p : Nat) (ws : List Wd) (b : Bool) (h : p ≤ s.size) (hs : s.size ≤ 1000000) :
    ACall Tryz.prog 62 [.c (.ptr 0 0), .c (.d (.bool b))] (scObj s p ws) (fun o σ => o = .ret (.c (.d (.str (s.extract p (p + spanL b (restL s p)))))) ∧ σ = scObj s p ws) := by
  unfold scObj
  refine ACall.body tab_ok (ρ := 0) (N := 50) Tryz.func62 rfl rfl rfl rfl rfl ?_
  repeat' first | refine AW.seq ?_ | refine AW.block ?_ | (refine (_root_.id : AW _ _ _ (.region 4 _ true) _ _ → _) ?_; refine AW.draw (id := 4) tab_ok mixed [0, 1, 2, 3, 4, 5, 6, 7, 8, 9, 10] (by kernel_rfl) ?_; conv => whnf) | ((first | refine AW.region tab_ok ?_ | refine AW.cond ?_ | refine AW.skip ?_ | refine AW.ret ?_ | refine AW.exit ?_); conv => whnf) | ((first | refine And.intro (@rfl Val _) ?_ | refine And.intro (by decide) ?_ | refine cs (fun _ => ?_) (fun _ => ?_)) <;> conv => whnf)
  refine AW.loop (ι := SpI s p b) (fun x => ⟨50, [(5, .c (.d (.int .i64 (p + x.n : Nat)))), (1, .c (.d (.bool b))), (0, .c (.ptr 0 0))], [.var [.d (.str s), .d (.int .i64 p), .own 1 (wrows ws).length], .row 57 4 (wrows ws)], []⟩)
    (fun x => s.size - p - x.n) ⟨0, by omega, by simp⟩ 2 (fun _ => rfl) (Nat.le_of_ble_eq_true rfl) ⟨⟨rfl, rfl, rfl, trivial⟩, rfl, rfl, ⟨[], rfl⟩, rfl⟩ (fun x => ?_)
  obtain ⟨n, hn, hx⟩ := x
  simp only
  have c1 := digit_call (byteAt s (p + n : Nat))
  have c2 := letter_call (byteAt s (p + n : Nat))
  have fin : ∀ (hz : spanL b (restL s (p + n)) = 0), Out.ret (oneOf [Val.c (.d (.str (s.extract p (p + n))))]) = Out.ret (Val.c (.d (.str (s.extract p (p + spanL b (restL s p)))))) := fun hz => by
    rw [hx, hz]; rfl
  repeat' first | ((refine And.intro (⟨by omega, by omega, by omega⟩ : _ ∧ _ ∧ _) ?_; conv => whnf)) | refine AW.seq ?_ | refine AW.block ?_ | (refine (_root_.id : AW _ _ _ (.region 4 _ true) _ _ → _) ?_; refine AW.draw (id := 4) tab_ok mixed [0, 1, 2, 3, 4, 5, 6, 7, 8, 9, 10] (by kernel_rfl) ?_; conv => whnf) | ((first | refine AW.region tab_ok ?_ | refine AW.cond ?_ | refine AW.skip ?_ | refine AW.ret ?_ | refine AW.exit ?_); conv => whnf) | ((first | refine And.intro (@rfl Val _) ?_ | refine And.intro (by decide) ?_ | refine cs (fun _ => ?_) (fun _ => ?_)) <;> conv => whnf)
  · rename_i h2
    have h3 : p + n < s.size := by have := of_decide_eq_true h2; omega
    have hr := restL_get h3
    have hb := byteAt_get h3
    rw [hb] at c1 c2
    have hsp : spanL b (restL s (p + n)) = if (digitF (s.get! (p + n)).toNat || (b && letterF (s.get! (p + n)).toNat)) = true then 1 + spanL b (restL s (p + n + 1)) else 0 := by
      rw [hr, spanL]
    refine ⟨⟨by omega, by omega⟩, ?_⟩
    conv => whnf
    rw [hb]
    generalize digitF (s.get! (p + n)).toNat = d1 at *
    generalize letterF (s.get! (p + n)).toNat = d2 at *
    have hw : IntKind.i64.wrap (((p + n : Nat) : Int) + 1) = ((p + (n + 1) : Nat) : Int) := by rw [wrap64 (by omega) (by omega)]; omega
    cases d1 <;> cases b <;> cases d2
    all_goals
      repeat' first | ((refine And.intro (⟨by omega, by omega, by omega⟩ : _ ∧ _ ∧ _) ?_; conv => whnf)) | ((refine And.intro (⟨by omega, by omega⟩ : _ ∧ _) ?_; (conv => whnf); rw [hb]; refine (c2).mono ?_; rintro _ _ ⟨rfl, rfl⟩; conv => whnf)) | refine AW.seq ?_ | refine AW.block ?_ | (refine (_root_.id : AW _ _ _ (.region 4 _ true) _ _ → _) ?_; refine AW.draw (id := 4) tab_ok mixed [0, 1, 2, 3, 4, 5, 6, 7, 8, 9, 10] (by kernel_rfl) ?_; conv => whnf) | ((first | refine AW.region tab_ok ?_ | refine AW.cond ?_ | refine AW.skip ?_ | refine AW.ret ?_ | refine AW.exit ?_); conv => whnf) | ((first | refine (c1).mono ?_ | refine (c2).mono ?_); rintro _ _ ⟨rfl, rfl⟩; conv => whnf) | ((first | refine And.intro (@rfl Val _) ?_ | refine And.intro (by decide) ?_ | refine cs (fun _ => ?_) (fun _ => ?_)) <;> conv => whnf)
      all_goals first
        | exact ⟨fin (by rw [hsp]; rfl), rfl⟩
        | (rw [hw]; exact ⟨⟨n + 1, by omega, by rw [hx, hsp, show p + (n + 1) = p + n + 1 by omega]; simp; omega⟩, ⟨⟨rfl, rfl, rfl, trivial⟩, rfl, rfl, ⟨[], rfl⟩, rfl⟩, show s.size - p - (n + 1) < s.size - p - n by omega⟩)
       
  · rename_i h2
    have h3 : ¬ p + n < s.size := by have := of_decide_eq_false h2; omega
    exact ⟨fin (by rw [restL_end h3]; rfl), rfl⟩
end Go.Proofs.YtmaokphbfjpodaaGreatDoor.E

/- Walks: scan.number. No conditions. -/
set_option linter.unusedVariables false
set_option linter.unusedSimpArgs false
namespace Go.Proofs.YtmaokphbfjpodaaGreatDoor.E
open Go

theorem wrapu64 {x : Int} (h0 : 0 ≤ x) (h1 : x < 18446744073709551616) : IntKind.u64.wrap x = x := by
  have hm : x % 18446744073709551616 = x := by omega
  unfold IntKind.wrap
  simp [IntKind.bits, IntKind.signed, hm]
structure NmI (L : List UInt8) where
  i : Nat
  hi : i ≤ L.length
  v : Nat
  hv : v ≤ 9223372036854775807
  h : numL 0 L = numL v (L.drop i)
/-- What number tells: a fault, or the word laid down. -/
def numF (s : ByteArray) (p : Nat) (w : ByteArray) : Except Int Nat := match numL 0 w.data.toList with
  | none => .error 3
  | some v => if (w.size > 1 ∧ byteAt w 0 = 48) ∨ (p + w.size < s.size ∧ letterF (byteAt s (p + w.size : Nat)) = true) then .error 10 else .ok v
def numR (s : ByteArray) (p : Nat) (ws : List Wd) (w : ByteArray) (o : Out) (σ : List AObj) : Prop := match numF s p w with
  | .error e => o = .ret (.c (.d (.rp 0 (faultD e p w)))) ∧ σ = scObj s p ws
  | .ok v => o = .ret (.c (.d .nilp)) ∧ σ = scObj s (p + w.size) (ws ++ [⟨2, w, v, p⟩])
set_option maxRecDepth 10000 in
set_option maxHeartbeats 1000000 in
theorem number_call (s : ByteArray) (p : Nat) (ws : List Wd) (w : ByteArray) (hp : p + w.size ≤ s.size) (hs : s.size ≤ 1000000) (hws : ws.length ≤ 1000000) (hd : ∀ c ∈ w.data.toList, digitF c.toNat = true) :
    ACall Tryz.prog 67 [.c (.ptr 0 0), .c (.d (.str w))] (scObj s p ws) (numR s p ws w) := by
  have hf3 := fault_call s p ws 3 w
  have hf10 := fault_call s p ws 10 w
  have hput := fun v => put_call4 s p ws 2 w v (by omega) hws
  have hl : w.data.toList.length = w.size := rfl
  unfold scObj at hf3 hf10 hput ⊢
  refine ACall.body tab_ok (ρ := 0) (N := 74) Tryz.func67 rfl rfl rfl rfl rfl ?_
  repeat' first | refine AW.seq ?_ | refine AW.block ?_ | ((first | refine AW.region tab_ok ?_ | refine AW.cond ?_ | refine AW.skip ?_ | refine AW.ret ?_ | refine AW.exit ?_); conv => whnf) | ((first | refine And.intro (@rfl Val _) ?_ | refine And.intro (by decide) ?_ | refine cs (fun _ => ?_) (fun _ => ?_)) <;> conv => whnf)
  refine AW.loop (ι := NmI w.data.toList) (fun x => ⟨74, [(13, .c (.d (.int .i64 x.i))), (12, .c (.d (.int .i64 (u8rows w.data.toList).length))), (11, .c (.d (.sl 0 1 (u8rows w.data.toList)))), (5, .c (.d (.int .u64 x.v))), (1, .c (.d (.str w))), (0, .c (.ptr 0 0))], [.var [.d (.str s), .d (.int .i64 p), .own 1 (wrows ws).length], .row 57 4 (wrows ws)], []⟩)
    (fun x => w.size - x.i) ⟨0, Nat.zero_le _, 0, by decide, by simp⟩ 2 (fun _ => rfl) (Nat.le_of_ble_eq_true rfl) ⟨⟨rfl, rfl, rfl, rfl, rfl, rfl, trivial⟩, rfl, rfl, ⟨[], rfl⟩, rfl⟩ (fun x => ?_)
  obtain ⟨i, hi, v, hv, hx⟩ := x
  dsimp only
  have hwp : IntKind.i64.wrap ((p : Int) + (w.size : Int)) = ((p + w.size : Nat) : Int) := by rw [wrap64 (by omega) (by omega)]; omega
  have c2 := letter_call (byteAt s (p + w.size : Nat))
  have hwv : IntKind.i64.wrap (v : Int) = (v : Int) := wrap64 (by omega) (by omega)
  repeat' first | ((rw [hwp]; conv => whnf)) | ((refine And.intro (⟨by omega, by simp at *; omega⟩ : (0 : Int) ≤ _ ∧ _ < ((ByteArray.size _ : Nat) : Int)) ?_; conv => whnf)) | refine AW.seq ?_ | refine AW.block ?_ | ((first | refine AW.region tab_ok ?_ | refine AW.cond ?_ | refine AW.skip ?_ | refine AW.ret ?_ | refine AW.exit ?_); conv => whnf) | ((first | refine (hf10).mono ?_ | refine (c2).mono ?_); rintro _ _ ⟨rfl, rfl⟩; conv => whnf) | ((first | refine And.intro (@rfl Val _) ?_ | refine And.intro (by decide) ?_ | refine cs (fun _ => ?_) (fun _ => ?_)) <;> conv => whnf)
  · rename_i h2
    have hlt : i < w.data.toList.length := by have := of_decide_eq_true h2; rw [u8rows_len] at this; omega
    refine ⟨⟨by omega, by rw [u8rows_len]; omega⟩, fun row hrow => ?_⟩
    obtain ⟨c, hc, rfl⟩ := u8rows_get (by simpa using hrow)
    have hdc := hd c (List.mem_of_getElem? hc)
    simp only [digitF, Bool.and_eq_true, decide_eq_true_eq] at hdc
    have hw1 : IntKind.u8.wrap ((c.toNat : Int) - 48) = ((c.toNat - 48 : Nat) : Int) := by
      have : c.toNat = 48 ∨ c.toNat = 49 ∨ c.toNat = 50 ∨ c.toNat = 51 ∨ c.toNat = 52 ∨ c.toNat = 53 ∨ c.toNat = 54 ∨ c.toNat = 55 ∨ c.toNat = 56 ∨ c.toNat = 57 := by omega
      rcases this with h | h | h | h | h | h | h | h | h | h <;> rw [h] <;> decide
    clear hrow
    conv => whnf
    repeat' first | ((rw [hw1]; conv => whnf)) | refine AW.seq ?_ | refine AW.block ?_ | ((first | refine AW.region tab_ok ?_ | refine AW.cond ?_ | refine AW.skip ?_ | refine AW.ret ?_ | refine AW.exit ?_); conv => whnf) | (refine (hf3).mono ?_; rintro _ _ ⟨rfl, rfl⟩; conv => whnf) | ((first | refine And.intro (@rfl Val _) ?_ | refine And.intro (by decide) ?_ | refine cs (fun _ => ?_) (fun _ => ?_)) <;> conv => whnf)
    all_goals
      rename_i h3
      have hd9 : c.toNat - 48 ≤ 9 := by omega
      have hdr : w.data.toList.drop i = c :: w.data.toList.drop (i + 1) := by
        rw [List.drop_eq_getElem_cons hlt, ← (List.getElem?_eq_some_iff.1 hc).2]
      have e1 : IntKind.u64.wrap ((c.toNat - 48 : Nat) : Int) = ((c.toNat - 48 : Nat) : Int) := wrapu64 (by omega) (by omega)
      have e2 : IntKind.u64.wrap ((IntKind.u64.wrap (9223372036854775807 - IntKind.u64.wrap ((c.toNat - 48 : Nat) : Int))).tdiv 10) = (((9223372036854775807 - (c.toNat - 48)) / 10 : Nat) : Int) := by
        rw [e1, wrapu64 (x := 9223372036854775807 - ((c.toNat - 48 : Nat) : Int)) (by omega) (by omega), Int.tdiv_eq_ediv_of_nonneg (by omega), wrapu64 (by omega) (by omega)]
        omega
      rw [e2] at h3
    · have h4 : v > (9223372036854775807 - (c.toNat - 48)) / 10 := by have := of_decide_eq_true h3; omega
      have : numF s p w = .error 3 := by unfold numF; rw [hx, hdr, numL, if_pos h4]
      rw [this]
      exact ⟨rfl, rfl⟩
    · have h4 : ¬ v > (9223372036854775807 - (c.toNat - 48)) / 10 := by have := of_decide_eq_false h3; omega
      have e3 : IntKind.u64.wrap (IntKind.u64.wrap ((v : Int) * 10) + IntKind.u64.wrap ((c.toNat - 48 : Nat) : Int)) = ((v * 10 + (c.toNat - 48) : Nat) : Int) := by
        rw [e1, wrapu64 (x := (v : Int) * 10) (by omega) (by omega), wrapu64 (by omega) (by omega)]
        omega
      rw [e3, wrap64 (x := (i : Int) + 1) (by omega) (by omega)]
      exact ⟨⟨i + 1, hlt, v * 10 + (c.toNat - 48), by omega, by rw [hx, hdr, numL, if_neg h4]⟩, ⟨⟨rfl, rfl, rfl, rfl, rfl, rfl, trivial⟩, rfl, rfl, ⟨[], rfl⟩, rfl⟩, show w.size - (i + 1) < w.size - i by omega⟩
  all_goals
    have hie : w.data.toList.length ≤ i := by
      have h0 : decide ((i : Int) < ((u8rows w.data.toList).length : Int)) = false := by assumption
      have := of_decide_eq_false h0
      rw [u8rows_len] at this
      omega
    have hend : numL 0 w.data.toList = some v := by rw [hx, List.drop_eq_nil_of_le hie, numL]
    clear hx hi
    clear hf3 hf10 c2 hd hl
    first
      | (have hc : (w.size > 1 ∧ byteAt w 0 = 48) ∨ (p + w.size < s.size ∧ letterF (byteAt s (p + w.size : Nat)) = true) := by
           clear hput
           simp only [cond_true, cond_false, decide_eq_true_eq, decide_eq_false_iff_not, beq_iff_eq, beq_eq_false_iff_ne, ne_eq] at *
           first | (left; constructor <;> omega) | (right; exact ⟨by omega, by assumption⟩)
         have : numF s p w = .error 10 := by unfold numF; rw [hend]; exact if_pos hc
         rw [this]
         exact ⟨rfl, rfl⟩)
      | (have hc : ¬ ((w.size > 1 ∧ byteAt w 0 = 48) ∨ (p + w.size < s.size ∧ letterF (byteAt s (p + w.size : Nat)) = true)) := by
           clear hput
           simp only [cond_true, cond_false, decide_eq_true_eq, decide_eq_false_iff_not, beq_iff_eq, beq_eq_false_iff_ne, ne_eq] at *
           rintro (⟨q1, q2⟩ | ⟨q1, q2⟩)
           · first | omega | contradiction
           · first | omega | simp_all
         have hok : numF s p w = .ok v := by unfold numF; rw [hend]; exact if_neg hc
         refine (hput (IntKind.i64.wrap (v : Int))).mono ?_
         rintro _ _ ⟨rfl, rfl⟩
         conv => whnf
         repeat' first | refine AW.seq ?_ | ((first | refine AW.region tab_ok ?_ | refine AW.ret ?_); conv => whnf)
         rw [hok, hwv]
         exact ⟨rfl, rfl⟩)
     
end Go.Proofs.YtmaokphbfjpodaaGreatDoor.E
