/- Texts, merged: Sc5, Sc6, Rs1. No conditions. -/
import Derived.Test.YtmaokphbfjpodaaGreatDoorGenX12
import Derived.Test.YtmaokphbfjpodaaGreatDoorGenX5
import Derived.Test.YtmaokphbfjpodaaGreatDoorEngX3
/- Walks: scan.word. No conditions. -/
set_option linter.unusedVariables false
set_option linter.unusedSimpArgs false
namespace Go.Proofs.YtmaokphbfjpodaaGreatDoor.E
open Go

/-- What word tells: a fault, or the word laid down. -/
def wordR (s : ByteArray) (p : Nat) (ws : List Wd) (o : Out) (σ : List AObj) : Prop := match wordL p (restL s p) with
  | .error (e, w) => o = .ret (.c (.d (.rp 0 (faultD e p w)))) ∧ σ = scObj s p ws
  | .ok w => o = .ret (.c (.d .nilp)) ∧ σ = scObj s (p + w.text.size) (ws ++ [w])
theorem wordR_err {s : ByteArray} {p : Nat} {ws : List Wd} {o : Out} {σ : List AObj} {e : Int} {w : ByteArray} (h : wordL p (restL s p) = .error (e, w)) (h1 : o = .ret (.c (.d (.rp 0 (faultD e p w))))) (h2 : σ = scObj s p ws) : wordR s p ws o σ := by
  unfold wordR; rw [h]; exact ⟨h1, h2⟩
theorem wordR_ok {s : ByteArray} {p : Nat} {ws : List Wd} {o : Out} {σ : List AObj} {w : Wd} (h : wordL p (restL s p) = .ok w) (h1 : o = .ret (.c (.d .nilp))) (h2 : σ = scObj s (p + w.text.size) (ws ++ [w])) : wordR s p ws o σ := by
  unfold wordR; rw [h]; exact ⟨h1, h2⟩
theorem extract_rest (s : ByteArray) (p n : Nat) : s.extract p (p + n) = ⟨((restL s p).take n).toArray⟩ := by
  apply ByteArray.ext
  rw [ByteArray.data_extract]
  apply Array.ext'
  rw [Array.toList_extract, List.extract_eq_take_drop]
  simp only [restL, List.toList_toArray]
  rw [show p + n - p = n by omega]
theorem spanL_digits : ∀ l : List UInt8, ∀ c ∈ l.take (spanL false l), digitF c.toNat = true
  | [], c, h => by simp at h
  | d :: l, c, h => by
    unfold spanL at h
    split at h
    · rename_i hd
      rw [show 1 + spanL false l = spanL false l + 1 by omega, List.take_succ_cons] at h
      rcases List.mem_cons.1 h with rfl | h
      · simpa using hd
      · exact spanL_digits l c h
    · simp at h
theorem restL_len (s : ByteArray) (p : Nat) : (restL s p).length = s.size - p := by unfold restL; rw [List.length_drop]; rfl
theorem byte_ne {s : ByteArray} {p : Nat} (h : p < s.size) (k : Nat) (hk : k < 256) (hn : byteAt s (p : Nat) ≠ (k : Nat)) : s.get! p ≠ UInt8.ofNat k := fun e => hn (by rw [byteAt_get h, e]; simp; omega)
theorem byte_eq {s : ByteArray} {p : Nat} (h : p < s.size) (k : Nat) (hk : k < 256) (hn : byteAt s (p : Nat) = (k : Nat)) : s.get! p = UInt8.ofNat k := by
  rw [byteAt_get h] at hn
  apply UInt8.toNat_inj.1
  have : (s.get! p).toNat = k := by exact_mod_cast hn
  rw [this]; simp; omega
theorem word_letter {s : ByteArray} {p : Nat} (h : p < s.size) (hc : letterF (byteAt s (p : Nat)) = true) : wordL p (restL s p) =
    if (s.extract p (p + spanL true (restL s p))).size > 64 then .error (3, s.extract p (p + spanL true (restL s p))) else if keyF (s.extract p (p + spanL true (restL s p))) = true then .ok ⟨3, s.extract p (p + spanL true (restL s p)), 0, p⟩ else .ok ⟨1, s.extract p (p + spanL true (restL s p)), 0, p⟩ := by
  rw [byteAt_get h] at hc
  rw [extract_rest, restL_get h, wordL_letter hc]
  rfl
theorem word_digit {s : ByteArray} {p : Nat} (h : p < s.size) (hl : letterF (byteAt s (p : Nat)) = false) (hc : digitF (byteAt s (p : Nat)) = true) : wordL p (restL s p) =
    match numF s p (s.extract p (p + spanL false (restL s p))) with
      | .error e => .error (e, s.extract p (p + spanL false (restL s p)))
      | .ok v => .ok ⟨2, s.extract p (p + spanL false (restL s p)), v, p⟩ := by
  rw [byteAt_get h] at hc hl
  have hle := spanL_le false (restL s p)
  have hpos : 1 ≤ spanL false (restL s p) := by rw [restL_get h, spanL, if_pos (by rw [hc]; rfl)]; omega
  rw [restL_len] at hle
  generalize hn : spanL false (restL s p) = n at hle hpos
  have hsz : (s.extract p (p + n)).size = n := by simp; omega
  have h0 : byteAt (s.extract p (p + n)) 0 = 48 ↔ s.get! p = 48 := by
    have : byteAt (s.extract p (p + n)) ((0 : Nat) : Int) = (((s.get! p).toNat : Nat) : Int) := by
      unfold byteAt
      rw [extract_rest, restL_get h, show n = (n - 1) + 1 by omega, List.take_succ_cons]
      rfl
    rw [show (0 : Int) = ((0 : Nat) : Int) from rfl, this]
    constructor
    · intro e
      apply UInt8.toNat_inj.1
      have : (s.get! p).toNat = 48 := by exact_mod_cast e
      rw [this]; rfl
    · intro e; rw [e]; rfl
  have hdr : (restL s p).drop n = restL s (p + n) := by unfold restL; rw [List.drop_drop]
  have hlt : nextLetter (restL s (p + n)) = true ↔ (p + n < s.size ∧ letterF (byteAt s (p + n : Nat)) = true) := by
    by_cases hq : p + n < s.size
    · rw [restL_get hq, byteAt_get hq]; simp [hq, nextLetter]
    · rw [restL_end hq]; simp [hq, nextLetter]
  have hw := extract_rest s p n
  have hr := restL_get h
  have key : wordL p (restL s p) = wordL p (s.get! p :: restL s (p + 1)) := by rw [hr]
  rw [key, wordL_digit hl hc, ← hr, hn, ← hw, hdr]
  unfold numF
  rw [hw]
  simp only [List.toList_toArray]
  cases numL 0 ((restL s p).take n) with
  | none => rfl
  | some v =>
    simp only
    rw [← hw, hsz]
    by_cases hcd : (n > 1 ∧ s.get! p = 48) ∨ (p + n < s.size ∧ letterF (byteAt s (p + n : Nat)) = true)
    · rw [if_pos (hcd.imp id hlt.2), if_pos (hcd.imp (fun q => ⟨q.1, h0.2 q.2⟩) id)]
    · rw [if_neg (fun q => hcd (q.imp id hlt.1)), if_neg (fun q => hcd (q.imp (fun q => ⟨q.1, h0.1 q.2⟩) id))]
theorem extract_one {s : ByteArray} {p : Nat} (h : p < s.size) : s.extract p (p + 1) = ⟨#[s.get! p]⟩ := by
  rw [extract_rest, restL_get h]; rfl
def signsI : List Int := [92, 46, 58, 61, 40, 41, 91, 93, 123, 125, 44, 124, 43, 42, 47, 60, 62, 63, 59]
theorem signs_iff {s : ByteArray} {p : Nat} (h : p < s.size) : s.get! p ∈ signsF ↔ byteAt s (p : Nat) ∈ signsI := by
  rw [byteAt_get h]
  have : signsI = signsF.map fun c => ((c.toNat : Nat) : Int) := rfl
  rw [this, List.mem_map]
  constructor
  · intro hm; exact ⟨_, hm, rfl⟩
  · rintro ⟨c, hc, e⟩
    have : c = s.get! p := UInt8.toNat_inj.1 (by exact_mod_cast e)
    rw [← this]; exact hc
theorem word_sign {s : ByteArray} {p : Nat} (h : p < s.size) (hl : letterF (byteAt s (p : Nat)) = false) (hd : digitF (byteAt s (p : Nat)) = false) (h45 : byteAt s (p : Nat) ≠ 45) (hm : byteAt s (p : Nat) ∈ signsI) : wordL p (restL s p) = .ok ⟨4, s.extract p (p + 1), 0, p⟩ := by
  have h1 := byte_ne h 45 (by decide) h45
  have h2 := (signs_iff h).2 hm
  rw [byteAt_get h] at hl hd
  rw [extract_one h, restL_get h, wordL_sign hl hd h1 h2]
theorem word_none {s : ByteArray} {p : Nat} (h : p < s.size) (hl : letterF (byteAt s (p : Nat)) = false) (hd : digitF (byteAt s (p : Nat)) = false) (h45 : byteAt s (p : Nat) ≠ 45) (hm : byteAt s (p : Nat) ∉ signsI) : wordL p (restL s p) = .error (10, s.extract p (p + 1)) := by
  have h1 := byte_ne h 45 (by decide) h45
  have h2 := fun q => hm ((signs_iff h).1 q)
  rw [byteAt_get h] at hl hd
  rw [extract_one h, restL_get h, wordL_none hl hd h1 h2]
theorem word_arrow {s : ByteArray} {p : Nat} (h : p < s.size) (h45 : byteAt s (p : Nat) = 45) (h2 : p + 1 < s.size) (h3 : byteAt s (p + 1 : Nat) = 62) : wordL p (restL s p) = .ok ⟨4, ⟨#[45, 62]⟩, 0, p⟩ := by
  have e1 := byte_eq h 45 (by decide) h45
  have e2 := byte_eq h2 62 (by decide) h3
  rw [restL_get h, restL_get h2, e1, e2]
  exact wordL_arrow
theorem word_dash {s : ByteArray} {p : Nat} (h : p < s.size) (h45 : byteAt s (p : Nat) = 45) (h2 : ¬ (p + 1 < s.size ∧ byteAt s (p + 1 : Nat) = 62)) : wordL p (restL s p) = .ok ⟨4, s.extract p (p + 1), 0, p⟩ := by
  have e1 := byte_eq h 45 (by decide) h45
  rw [extract_one h, restL_get h, e1]
  refine wordL_dash fun r hr => h2 ?_
  by_cases hq : p + 1 < s.size
  · rw [restL_get hq] at hr
    refine ⟨hq, ?_⟩
    rw [byteAt_get hq, (List.cons.inj hr).1]; rfl
  · rw [restL_end hq] at hr; cases hr
theorem numR_cases {s : ByteArray} {p : Nat} {ws : List Wd} {w : ByteArray} {o : Out} {σ : List AObj} (h : numR s p ws w o σ) :
    (∃ e, numF s p w = .error e ∧ o = .ret (.c (.d (.rp 0 (faultD e p w)))) ∧ σ = scObj s p ws) ∨ (∃ v, numF s p w = .ok v ∧ o = .ret (.c (.d .nilp)) ∧ σ = scObj s (p + w.size) (ws ++ [⟨2, w, v, p⟩])) := by
  unfold numR at h
  cases hn : numF s p w with
  | error e => rw [hn] at h; exact .inl ⟨e, rfl, h.1, h.2⟩
  | ok v => rw [hn] at h; exact .inr ⟨v, rfl, h.1, h.2⟩
set_option maxRecDepth 10000 in
set_option maxHeartbeats 6000000 in
theorem word_call (s : ByteArray) (p : Nat) (ws : List Wd) (h : p < s.size) (hs : s.size ≤ 900000) (hws : ws.length ≤ 1000000) :
    ACall Tryz.prog 35 [.c (.ptr 0 0)] (scObj s p ws) (wordR s p ws) := by
  have c1 := letter_call (byteAt s (p : Nat))
  have c2 := digit_call (byteAt s (p : Nat))
  have hsp := fun b => spanL_le b (restL s p)
  have hrl : (restL s p).length = s.size - p := by unfold restL; rw [List.length_drop]; rfl
  have sz : ∀ n, p + n ≤ s.size → (s.extract p (p + n)).size = n := fun n hn => by simp; omega
  have sp := fun b => span_call s p ws b (by omega) (by omega)
  have flt := fun e w => fault_call s p ws e w
  have put := fun k w n hw => put_call4 s p ws k w n hw hws
  have ck := fun w => key_call w
  have nm := number_call s p ws (s.extract p (p + spanL false (restL s p))) (by rw [sz _ (by have := hsp false; omega)]; have := hsp false; omega) (by omega) hws (by rw [extract_rest]; exact spanL_digits _)
  have hr := restL_get h
  have hb := byteAt_get h
  simp only [scObj] at sp flt put nm ⊢
  refine ACall.body tab_ok (ρ := 0) (N := 121) Tryz.func35 rfl rfl rfl rfl rfl ?_
  have hw1 : IntKind.i64.wrap ((p : Int) + 1) = ((p + 1 : Nat) : Int) := by rw [wrap64 (by omega) (by omega)]; omega
  have putT := fun k n => put k (s.extract p (p + spanL true (restL s p))) n (by rw [sz _ (by have := hsp true; omega)]; have := hsp true; omega)
  have put1 := fun k n => put k (s.extract p (p + 1)) n (by rw [sz 1 (by omega)]; omega)
  have put2 := put 4 ⟨#[45, 62]⟩ 0 (by show p + 2 ≤ _; omega)
  repeat' first | ((rw [hw1]; conv => whnf)) | ((refine And.intro (⟨by omega, by omega⟩ : _ ∧ _) ?_; conv => whnf)) | ((refine And.intro (⟨by omega, by have hlt := of_decide_eq_true (by assumption : decide (((p + 1 : Nat) : Int) < (s.size : Int)) = true); omega⟩ : _ ∧ _) ?_; conv => whnf)) | ((refine And.intro (⟨by omega, by omega, by omega⟩ : _ ∧ _ ∧ _) ?_; conv => whnf)) | ((refine nm.mono ?_; intro o σ hh; rcases numR_cases hh with ⟨e, hn, rfl, rfl⟩ | ⟨v, hn, rfl, rfl⟩ <;> conv => whnf)) | refine AW.seq ?_ | refine AW.block ?_ | (refine (_root_.id : AW _ _ _ (.region 1 _ true) _ _ → _) ?_; refine AW.draw (id := 1) tab_ok mixed [0, 1, 2, 3, 4, 5, 6, 7, 8, 9] (by kernel_rfl) ?_; conv => whnf) | (refine (_root_.id : AW _ _ _ (.region 32 _ true) _ _ → _) ?_; refine AW.draw (id := 32) tab_ok mixed [0, 1, 2, 3, 4, 5, 6, 7, 8, 9, 10, 11, 12, 13, 14, 15, 16, 17, 18, 19, 20, 21, 22, 23] (by kernel_rfl) ?_; conv => whnf) | (refine (_root_.id : AW _ _ _ (.region 34 _ true) _ _ → _) ?_; refine AW.draw (id := 34) tab_ok mixed [0, 1, 2, 3, 4, 5, 6, 7, 8, 9, 10, 11, 12, 13, 14, 15, 16] (by kernel_rfl) ?_; conv => whnf) | (refine (_root_.id : AW _ _ _ (.region 35 _ true) _ _ → _) ?_; refine AW.draw (id := 35) tab_ok mixed [0, 1, 2, 3, 4, 5, 6, 7, 8, 9, 10, 11, 12, 13, 14, 15, 16] (by kernel_rfl) ?_; conv => whnf) | ((first | refine AW.region tab_ok ?_ | refine AW.cond ?_ | refine AW.skip ?_ | refine AW.ret ?_ | refine AW.exit ?_); conv => whnf) | ((first | refine (c1).mono ?_ | refine (c2).mono ?_ | refine (sp _).mono ?_ | refine (flt _ _).mono ?_ | refine (ck _).mono ?_ | refine (putT _ _).mono ?_ | refine (put1 _ _).mono ?_ | refine (put2).mono ?_); rintro _ _ ⟨rfl, rfl⟩; conv => whnf) | ((first | refine And.intro (@rfl Val _) ?_ | refine And.intro (by decide) ?_ | refine cs (fun _ => ?_) (fun _ => ?_)) <;> conv => whnf)
  all_goals
    clear c1 c2 hsp hrl sz sp flt put ck nm hr hb putT put1 put2
    try simp only [decide_eq_true_eq, decide_eq_false_iff_not, beq_iff_eq, beq_eq_false_iff_ne, ne_eq, cond_true, cond_false] at *
    first
      | (refine wordR_err (e := 3) (w := s.extract p (p + spanL true (restL s p))) ?_ ?_ ?_; (rw [word_letter h (by assumption), if_pos (by omega)]); (rfl); (rfl))
      | (refine wordR_ok (w := ⟨3, s.extract p (p + spanL true (restL s p)), 0, p⟩) ?_ ?_ ?_; (rw [word_letter h (by assumption), if_neg (by omega), if_pos (by assumption)]); (rfl); (rfl))
      | (refine wordR_ok (w := ⟨1, s.extract p (p + spanL true (restL s p)), 0, p⟩) ?_ ?_ ?_; (rw [word_letter h (by assumption), if_neg (by omega), if_neg (by simp only [Bool.not_eq_true]; assumption)]); (rfl); (rfl))
      | (refine wordR_err (e := e) (w := s.extract p (p + spanL false (restL s p))) ?_ ?_ ?_; (rw [word_digit h (by assumption) (by assumption), hn]); (rfl); (rfl))
      | (refine wordR_ok (w := ⟨2, s.extract p (p + spanL false (restL s p)), v, p⟩) ?_ ?_ ?_; (rw [word_digit h (by assumption) (by assumption), hn]); (rfl); (rfl))
      | (refine wordR_ok (w := ⟨4, ⟨#[45, 62]⟩, 0, p⟩) ?_ ?_ ?_; (exact word_arrow h (by assumption) (by omega) (by assumption)); (rfl); (rfl))
      | (refine wordR_ok (w := ⟨4, s.extract p (p + 1), 0, p⟩) ?_ ?_ ?_; (exact word_dash h (by assumption) (fun q => by have := q.1; omega)); (rfl); (rfl))
      | (refine wordR_ok (w := ⟨4, s.extract p (p + 1), 0, p⟩) ?_ ?_ ?_; (exact word_dash h (by assumption) (fun q => absurd q.2 (by assumption))); (rfl); (rfl))
      | (refine wordR_ok (w := ⟨4, s.extract p (p + 1), 0, p⟩) ?_ ?_ ?_; (exact word_sign h (by assumption) (by assumption) (by assumption) (by rw [‹byteAt s (p : Nat) = _›]; decide)); (rfl); (rfl))
      | exact wordR_err (e := 10) (w := s.extract p (p + 1)) (word_none h (by assumption) (by assumption) (by assumption) (fun hm => by
          simp only [signsI, List.mem_cons, List.not_mem_nil, or_false] at hm
          simp_all)) rfl rfl
     
end Go.Proofs.YtmaokphbfjpodaaGreatDoor.E

/- Walks: scan.All. No conditions. -/
set_option linter.unusedVariables false
set_option linter.unusedSimpArgs false
namespace Go.Proofs.YtmaokphbfjpodaaGreatDoor.E
open Go

/-- The words of a text, from a place on; what is read is kept apart. -/
structure AlI (s : ByteArray) where
  p : Nat
  ws : List Wd
  m : Nat
  hp : p ≤ s.size
  hw : ws.length ≤ p
  hm : s.size - p < m
  h : scanL (s.size + 1) 0 (restL s 0) = match scanL m p (restL s p) with
    | .error x => .error x
    | .ok l => .ok (ws ++ l)
  hs : skipL false (restL s p) = 0
theorem restL_add (s : ByteArray) (p n : Nat) : (restL s p).drop n = restL s (p + n) := by unfold restL; rw [List.drop_drop]
def allR (s : ByteArray) (o : Out) (σ : List AObj) : Prop := match scanF s with
  | .error (e, a, w) => o = .ret (.tup [.c (.d (.sl 0 4 [])), .c (.d (faultI e a w))]) ∧ σ = []
  | .ok l => o = .ret (.tup [.c (.d (.sl 0 4 (wrows l))), .c (.d .nili)]) ∧ σ = []
theorem wordR_cases {s : ByteArray} {p : Nat} {ws : List Wd} {o : Out} {σ : List AObj} (h : wordR s p ws o σ) :
    (∃ e w, wordL p (restL s p) = .error (e, w) ∧ o = .ret (.c (.d (.rp 0 (faultD e p w)))) ∧ σ = scObj s p ws) ∨ (∃ w, wordL p (restL s p) = .ok w ∧ o = .ret (.c (.d .nilp)) ∧ σ = scObj s (p + w.text.size) (ws ++ [w])) := by
  unfold wordR at h
  cases hn : wordL p (restL s p) with
  | error e => rw [hn] at h; exact .inl ⟨e.1, e.2, rfl, h.1, h.2⟩
  | ok v => rw [hn] at h; exact .inr ⟨v, rfl, h.1, h.2⟩
set_option maxRecDepth 10000 in
set_option maxHeartbeats 2000000 in
theorem all_call (s : ByteArray) : ACall Tryz.prog 18 [.c (.d (.str s))] [] (allR s) := by
  refine ACall.body tab_ok (ρ := 0) (N := 41) Tryz.func18 rfl rfl rfl rfl rfl ?_
  repeat' first | ((refine AW.ghost 57 4 0 2 (by decide) rfl rfl ?_; conv => whnf)) | refine AW.seq ?_ | refine AW.block ?_ | ((first | refine AW.region tab_ok ?_ | refine AW.cond ?_ | refine AW.skip ?_ | refine AW.ret ?_ | refine AW.exit ?_); conv => whnf) | ((first | refine And.intro (@rfl Val _) ?_ | refine And.intro (by decide) ?_ | refine cs (fun _ => ?_) (fun _ => ?_)) <;> conv => whnf)
  · rename_i h
    have h : s.size > 65536 := by have := of_decide_eq_true h; omega
    have : scanF s = .error (3, 0, s0) := by unfold scanF; rw [if_pos h]
    rw [this]
    first | exact ⟨rfl, rfl⟩
  · rename_i h
    have h : ¬ s.size > 65536 := by have := of_decide_eq_false h; omega
    have S := fun p ws hp => skip_call s p ws hp (by omega)
    have W := fun p ws hp hws => word_call s p ws hp (by omega) hws
    simp only [scObj] at S W
    refine (S 0 [] (Nat.zero_le _)).mono ?_
    rintro _ _ ⟨rfl, rfl⟩
    conv => whnf
    repeat' first | refine AW.seq ?_ | refine AW.block ?_ | ((first | refine AW.region tab_ok ?_ | refine AW.cond ?_ | refine AW.skip ?_ | refine AW.ret ?_ | refine AW.exit ?_); conv => whnf) | ((first | refine And.intro (@rfl Val _) ?_ | refine And.intro (by decide) ?_ | refine cs (fun _ => ?_) (fun _ => ?_)) <;> conv => whnf)
    have h0 : (restL s 0).length = s.size := by rw [restL_len]; omega
    have hk0 := skipL_le false (restL s 0)
    refine AW.loop (ι := AlI s) (fun x => ⟨41, [(4, .c (.ptr 0 0)), (0, .c (.d (.str s)))], [.var [.d (.str s), .d (.int .i64 x.p), .own 1 (wrows x.ws).length], .row 57 4 (wrows x.ws)], []⟩)
      (fun x => s.size - x.p) ⟨0 + skipL false (restL s 0), [], s.size + 1, by omega, Nat.zero_le _, by omega, by
        rw [scanL_skip]
        have := restL_add s 0 (skipL false (restL s 0))
        rw [this]
        cases scanL (s.size + 1) (0 + skipL false (restL s 0)) (restL s (0 + skipL false (restL s 0))) <;> rfl, by rw [← restL_add]; exact skipL_again _ _⟩ 2 (fun _ => rfl) (Nat.le_of_ble_eq_true rfl) ⟨⟨rfl, rfl, trivial⟩, rfl, rfl, ⟨[], rfl⟩, rfl⟩ (fun x => ?_)
    obtain ⟨p, ws, m, hp, hw, hm, hx, hsk⟩ := x
    obtain ⟨m, rfl⟩ : ∃ q, m = q + 1 := ⟨m - 1, by omega⟩
    dsimp only
    repeat' first | ((refine (W p ws (by have := of_decide_eq_true (by assumption : decide ((p : Int) < (s.size : Int)) = true); omega) (by omega)).mono ?_; intro o σ hh; rcases wordR_cases hh with ⟨e, w, hn, rfl, rfl⟩ | ⟨w, hn, rfl, rfl⟩ <;> conv => whnf)) | ((obtain ⟨w1, w2, w3⟩ := wordL_ok hn; rw [restL_len] at w2; refine (S (p + w.text.size) (ws ++ [w]) (by omega)).mono ?_; rintro _ _ ⟨rfl, rfl⟩; conv => whnf)) | refine AW.seq ?_ | refine AW.block ?_ | ((first | refine AW.region tab_ok ?_ | refine AW.cond ?_ | refine AW.skip ?_ | refine AW.ret ?_ | refine AW.exit ?_); conv => whnf) | ((first | refine And.intro (@rfl Val _) ?_ | refine And.intro (by decide) ?_ | refine cs (fun _ => ?_) (fun _ => ?_)) <;> conv => whnf)
    · rename_i h2
      have hlt : p < s.size := by have := of_decide_eq_true h2; omega
      have hne : restL s p ≠ [] := by rw [restL_get hlt]; exact List.cons_ne_nil _ _
      have e1 := scanL_step m p (restL s p) hsk hne
      rw [hn] at e1
      have : scanF s = .error (e, (p : Nat), w) := by
        have : scanL (s.size + 1) 0 s.data.toList = .error (e, (p : Nat), w) := by
          rw [show s.data.toList = restL s 0 from rfl, hx, e1]
        unfold scanF
        rw [if_neg h, this]
      rw [this]
      first | exact ⟨rfl, rfl⟩
    · rename_i h2
      have hlt : p < s.size := by have := of_decide_eq_true h2; omega
      have hne : restL s p ≠ [] := by rw [restL_get hlt]; exact List.cons_ne_nil _ _
      have e1 := scanL_step m p (restL s p) hsk hne
      rw [hn] at e1
      simp only at e1
      obtain ⟨m, rfl⟩ : ∃ q, m = q + 1 := ⟨m - 1, by omega⟩
      have e2 := scanL_skip m (p + w.text.size) (restL s (p + w.text.size))
      rw [restL_add] at e2
      rw [restL_add, e2] at e1
      have hkl := skipL_le false (restL s (p + w.text.size))
      rw [restL_len] at hkl
      refine ⟨⟨p + w.text.size + skipL false (restL s (p + w.text.size)), ws ++ [w], m + 1, by omega, by simp; omega, by omega, ?_, by rw [← restL_add]; exact skipL_again _ _⟩, ⟨⟨rfl, rfl, trivial⟩, rfl, rfl, ⟨[], rfl⟩, rfl⟩, ?_⟩
      · rw [hx, e1]
        cases scanL (m + 1) (p + w.text.size + skipL false (restL s (p + w.text.size))) (restL s (p + w.text.size + skipL false (restL s (p + w.text.size)))) with
        | error x => rfl
        | ok l => simp
      · show s.size - (p + w.text.size + skipL false (restL s (p + w.text.size))) < s.size - p
        omega
    · rename_i h2
      have hge : ¬ p < s.size := by have := of_decide_eq_false h2; omega
      refine ⟨⟨rfl, by simp only [bnd, wrows_len, List.length_cons, List.length_nil]; omega⟩, ?_⟩
      conv => whnf
      repeat' first | refine AW.seq ?_ | refine AW.block ?_ | ((first | refine AW.region tab_ok ?_ | refine AW.cond ?_ | refine AW.skip ?_ | refine AW.ret ?_ | refine AW.exit ?_); conv => whnf) | ((first | refine And.intro (@rfl Val _) ?_ | refine And.intro (by decide) ?_ | refine cs (fun _ => ?_) (fun _ => ?_)) <;> conv => whnf)
      refine And.intro (by simp) ?_
      conv => whnf
      rw [restL_end hge, scanL_nil] at hx
      have : scanF s = .ok (ws ++ [⟨0, s0, 0, s.size⟩]) := by
        have : scanL (s.size + 1) 0 s.data.toList = .ok ws := by
          rw [show s.data.toList = restL s 0 from rfl, hx]; simp
        unfold scanF
        rw [if_neg h, this]
      rw [this]
      simp only [wrows_app]
      first | exact ⟨rfl, rfl⟩
end Go.Proofs.YtmaokphbfjpodaaGreatDoor.E

/- Walks: the document's scanner: Blank, skip, run, sign. No conditions. -/
set_option linter.unusedVariables false
set_option linter.unusedSimpArgs false
namespace Go.Proofs.YtmaokphbfjpodaaGreatDoor.E
open Go

def blankF (c : Int) : Bool := decide (c = 32) || decide (c = 9) || decide (c = 10) || decide (c = 13)
set_option maxRecDepth 10000 in
theorem rblank_call (c : Int) : ACall Tryz.prog 77 [.c (.d (.int .u8 c))] [] (fun o σ => o = .ret (.c (.d (.bool (blankF c)))) ∧ σ = []) := by
  refine ACall.body tab_ok (ρ := 0) (N := 17) Tryz.func77 rfl rfl rfl rfl rfl ?_
  repeat' first | refine AW.seq ?_ | refine AW.block ?_ | ((first | refine AW.region tab_ok ?_ | refine AW.cond ?_ | refine AW.skip ?_ | refine AW.ret ?_ | refine AW.exit ?_); conv => whnf) | ((first | refine And.intro (@rfl Val _) ?_ | refine And.intro (by decide) ?_ | refine cs (fun _ => ?_) (fun _ => ?_)) <;> conv => whnf)
  all_goals
    refine ⟨outb ?_, rfl⟩
    rw [Bool.eq_iff_iff]
    simp at *
    simp [blankF]
    omega
theorem byte_iff {s : ByteArray} {q : Nat} (h : q < s.size) (k : Nat) (hk : k < 256) : s.get! q = UInt8.ofNat k ↔ byteAt s (q : Nat) = (k : Nat) :=
  ⟨fun e => Decidable.byContradiction fun hn => byte_ne h k hk hn e, byte_eq h k hk⟩
theorem sk_f {s : ByteArray} {q : Nat} (h : q < s.size) : skipL false (restL s q) = if byteAt s (q : Nat) = 10 then 1 + skipL false (restL s (q + 1)) else if byteAt s (q : Nat) = 32 ∨ byteAt s (q : Nat) = 9 ∨ byteAt s (q : Nat) = 13 then 1 + skipL false (restL s (q + 1)) else if byteAt s (q : Nat) = 35 then 1 + skipL true (restL s (q + 1)) else 0 := by
  have e10 : s.get! q = 10 ↔ byteAt s (q : Nat) = 10 := byte_iff h 10 (by decide)
  have e32 : s.get! q = 32 ↔ byteAt s (q : Nat) = 32 := byte_iff h 32 (by decide)
  have e9 : s.get! q = 9 ↔ byteAt s (q : Nat) = 9 := byte_iff h 9 (by decide)
  have e13 : s.get! q = 13 ↔ byteAt s (q : Nat) = 13 := byte_iff h 13 (by decide)
  have e35 : s.get! q = 35 ↔ byteAt s (q : Nat) = 35 := byte_iff h 35 (by decide)
  rw [restL_get h, skipL]
  simp only [e10, e32, e9, e13, e35, Bool.false_eq_true, if_false]
theorem sk_t {s : ByteArray} {q : Nat} (h : q < s.size) : skipL true (restL s q) = if byteAt s (q : Nat) = 10 then 1 + skipL false (restL s (q + 1)) else 1 + skipL true (restL s (q + 1)) := by
  have e10 : s.get! q = 10 ↔ byteAt s (q : Nat) = 10 := byte_iff h 10 (by decide)
  rw [restL_get h, skipL]
  simp only [e10, if_true]
structure RkI (s : ByteArray) (p : Nat) where
  q : Nat
  hq : q ≤ s.size
  h : p + skipL false (restL s p) = q + skipL false (restL s q)
structure RrI (s : ByteArray) (p q0 : Nat) where
  q : Nat
  hq : q ≤ s.size
  h0 : q0 ≤ q
  h : p + skipL false (restL s p) = q + skipL true (restL s q)
set_option maxRecDepth 10000 in
set_option maxHeartbeats 1000000 in
theorem rskip_call (s : ByteArray) (p : Nat) (h : p ≤ s.size) (hs : s.size ≤ 1000000) : ACall Tryz.prog 38 [.c (.d (.str s)), .c (.d (.int .i64 p))] [] (fun o σ => o = .ret (.c (.d (.int .i64 (p + skipL false (restL s p) : Nat)))) ∧ σ = []) := by
  refine ACall.body tab_ok (ρ := 0) (N := 34) Tryz.func38 rfl rfl rfl rfl rfl ?_
  repeat' first | refine AW.seq ?_ | refine AW.block ?_ | ((first | refine AW.region tab_ok ?_ | refine AW.cond ?_ | refine AW.skip ?_ | refine AW.ret ?_ | refine AW.exit ?_); conv => whnf) | ((first | refine And.intro (@rfl Val _) ?_ | refine And.intro (by decide) ?_ | refine cs (fun _ => ?_) (fun _ => ?_)) <;> conv => whnf)
  refine AW.loop (ι := RkI s p) (fun x => ⟨34, [(1, .c (.d (.int .i64 x.q))), (0, .c (.d (.str s)))], [], []⟩) (fun x => s.size - x.q) ⟨p, h, rfl⟩ 0 (fun _ => rfl) (Nat.le_of_ble_eq_true rfl) ⟨⟨rfl, rfl, trivial⟩, rfl, rfl, ⟨[], rfl⟩, rfl⟩ (fun x => ?_)
  obtain ⟨q, hq, hx⟩ := x
  dsimp only
  have B := rblank_call (byteAt s q)
  by_cases hlt : q < s.size
  · have hd : decide ((q : Int) < (s.size : Int)) = true := by simp; omega
    have hb : (0 : Int) ≤ (q : Int) ∧ (q : Int) < (s.size : Int) := by omega
    have hsk := sk_f hlt
    repeat' first | ((refine cs (fun _ => ?_) (fun g => absurd (hd.symm.trans g) (by decide)); conv => whnf)) | ((refine And.intro hb ?_; conv => whnf)) | refine AW.seq ?_ | refine AW.block ?_ | ((first | refine AW.region tab_ok ?_ | refine AW.cond ?_ | refine AW.skip ?_ | refine AW.ret ?_ | refine AW.exit ?_); conv => whnf) | (refine (B).mono ?_; rintro _ _ ⟨rfl, rfl⟩; conv => whnf) | ((first | refine And.intro (@rfl Val _) ?_ | refine And.intro (by decide) ?_ | refine cs (fun _ => ?_) (fun _ => ?_)) <;> conv => whnf)
    · rename_i h35
      have h35 : byteAt s (q : Nat) = 35 := by simpa using h35
      rw [if_neg (by omega), if_neg (by omega), if_pos h35] at hsk
      have hst := sk_t hlt
      rw [if_neg (by omega)] at hst
      refine AW.loop (ι := RrI s p q) (fun x => ⟨34, [(1, .c (.d (.int .i64 x.q))), (0, .c (.d (.str s)))], [], []⟩) (fun x => s.size - x.q) ⟨q, hq, Nat.le_refl _, by omega⟩ 0 (fun _ => rfl) (Nat.le_of_ble_eq_true rfl) ⟨⟨rfl, rfl, trivial⟩, rfl, rfl, ⟨[], rfl⟩, rfl⟩ (fun x => ?_)
      obtain ⟨r, hr, h0, hy⟩ := x
      dsimp only
      by_cases hlr : r < s.size
      · have hdr : decide ((r : Int) < (s.size : Int)) = true := by simp; omega
        have hbr : (0 : Int) ≤ (r : Int) ∧ (r : Int) < (s.size : Int) := by omega
        have g1 := sk_t hlr
        have g2 := sk_f hlr
        repeat' first | ((refine cs (fun _ => ?_) (fun g => absurd (hdr.symm.trans g) (by decide)); conv => whnf)) | ((refine And.intro hbr ?_; conv => whnf)) | refine AW.seq ?_ | refine AW.block ?_ | ((first | refine AW.region tab_ok ?_ | refine AW.cond ?_ | refine AW.skip ?_ | refine AW.ret ?_ | refine AW.exit ?_); conv => whnf) | ((first | refine And.intro (@rfl Val _) ?_ | refine And.intro (by decide) ?_ | refine cs (fun _ => ?_) (fun _ => ?_)) <;> conv => whnf)
        all_goals
          rename_i hc
          first
            | (have hc : ¬ byteAt s (r : Nat) = 10 := by simpa using hc
               rw [if_neg hc] at g1
               rw [wrap64 (by omega) (by omega)]
               exact ⟨⟨r + 1, by omega, by omega, by omega⟩, ⟨⟨rfl, rfl, trivial⟩, rfl, rfl, ⟨[], rfl⟩, rfl⟩, show s.size - (r + 1) < s.size - r by omega⟩)
            | (have hc : byteAt s (r : Nat) = 10 := by simpa using hc
               rw [if_pos hc] at g1 g2
               have : r ≠ q := fun e => by rw [e] at hc; omega
               exact ⟨⟨r, by omega, by omega⟩, ⟨⟨rfl, rfl, trivial⟩, rfl, rfl, ⟨[], rfl⟩, rfl⟩, show s.size - r < s.size - q by omega⟩)
           
      · have hdr : decide ((r : Int) < (s.size : Int)) = false := by simp; omega
        have e1 : restL s r = [] := restL_end hlr
        repeat' first | ((refine cs (fun g => absurd (hdr.symm.trans g) (by decide)) (fun _ => ?_); conv => whnf)) | refine AW.seq ?_ | refine AW.block ?_ | ((first | refine AW.region tab_ok ?_ | refine AW.cond ?_ | refine AW.skip ?_ | refine AW.ret ?_ | refine AW.exit ?_); conv => whnf) | ((first | refine And.intro (@rfl Val _) ?_ | refine And.intro (by decide) ?_ | refine cs (fun _ => ?_) (fun _ => ?_)) <;> conv => whnf)
        all_goals first
          | (exact ⟨⟨r, by omega, by rw [e1] at hy ⊢; simpa [skipL] using hy⟩, ⟨⟨rfl, rfl, trivial⟩, rfl, rfl, ⟨[], rfl⟩, rfl⟩, show s.size - r < s.size - q by omega⟩)
         
    · rename_i h35 hbl
      have h35 : ¬ byteAt s (q : Nat) = 35 := by simpa using h35
      have hbl : blankF (byteAt s (q : Nat)) = false := by simpa using hbl
      simp only [blankF, Bool.or_eq_false_iff, decide_eq_false_iff_not] at hbl
      rw [if_neg (by omega), if_neg (by omega), if_neg h35] at hsk
      rw [show p + skipL false (restL s p) = q by omega]
      first | exact ⟨rfl, rfl⟩
    · rename_i h35 hbl
      have h35 : ¬ byteAt s (q : Nat) = 35 := by simpa using h35
      have hbl : blankF (byteAt s (q : Nat)) = true := by simpa using hbl
      simp only [blankF, Bool.or_eq_true, decide_eq_true_eq] at hbl
      have hsk : skipL false (restL s q) = 1 + skipL false (restL s (q + 1)) := by
        rw [hsk]
        by_cases h10 : byteAt s (q : Nat) = 10
        · rw [if_pos h10]
        · rw [if_neg h10, if_pos (by omega)]
      rw [wrap64 (by omega) (by omega)]
      first | exact ⟨⟨q + 1, by omega, by omega⟩, ⟨⟨rfl, rfl, trivial⟩, rfl, rfl, ⟨[], rfl⟩, rfl⟩, show s.size - (q + 1) < s.size - q by omega⟩
  · have hd : decide ((q : Int) < (s.size : Int)) = false := by simp; omega
    have e1 : restL s q = [] := restL_end hlt
    rw [e1] at hx
    repeat' first | ((refine cs (fun g => absurd (hd.symm.trans g) (by decide)) (fun _ => ?_); conv => whnf)) | refine AW.seq ?_ | refine AW.block ?_ | ((first | refine AW.region tab_ok ?_ | refine AW.cond ?_ | refine AW.skip ?_ | refine AW.ret ?_ | refine AW.exit ?_); conv => whnf) | ((first | refine And.intro (@rfl Val _) ?_ | refine And.intro (by decide) ?_ | refine cs (fun _ => ?_) (fun _ => ?_)) <;> conv => whnf)
    rw [hx]
    first | exact ⟨rfl, rfl⟩
theorem sp_f {s : ByteArray} {q : Nat} (b : Bool) (h : q < s.size) : spanL b (restL s q) = if (digitF (byteAt s (q : Nat)) || (b && letterF (byteAt s (q : Nat)))) = true then 1 + spanL b (restL s (q + 1)) else 0 := by
  rw [restL_get h, spanL, byteAt_get h]
set_option maxRecDepth 10000 in
set_option maxHeartbeats 1000000 in
theorem rrun_call (s : ByteArray) (p : Nat) (b : Bool) (h : p ≤ s.size) (hs : s.size ≤ 1000000) : ACall Tryz.prog 79 [.c (.d (.str s)), .c (.d (.int .i64 p)), .c (.d (.bool b))] [] (fun o σ => o = .ret (.c (.d (.int .i64 (p + spanL b (restL s p) : Nat)))) ∧ σ = []) := by
  refine ACall.body tab_ok (ρ := 0) (N := 29) Tryz.func79 rfl rfl rfl rfl rfl ?_
  repeat' first | refine AW.seq ?_ | refine AW.block ?_ | ((first | refine AW.region tab_ok ?_ | refine AW.cond ?_ | refine AW.skip ?_ | refine AW.ret ?_ | refine AW.exit ?_); conv => whnf) | ((first | refine And.intro (@rfl Val _) ?_ | refine And.intro (by decide) ?_ | refine cs (fun _ => ?_) (fun _ => ?_)) <;> conv => whnf)
  refine AW.loop (ι := SpI s p b) (fun x => ⟨29, [(1, .c (.d (.int .i64 (p + x.n : Nat)))), (0, .c (.d (.str s))), (2, .c (.d (.bool b)))], [], []⟩) (fun x => s.size - (p + x.n)) ⟨0, h, by simp⟩ 0 (fun _ => rfl) (Nat.le_of_ble_eq_true rfl) ⟨⟨rfl, rfl, rfl, trivial⟩, rfl, rfl, ⟨[], rfl⟩, rfl⟩ (fun x => ?_)
  obtain ⟨n, hn, hx⟩ := x
  dsimp only
  have D := rdigit_call (byteAt s (p + n : Nat))
  have L := rletter_call (byteAt s (p + n : Nat))
  by_cases hlt : p + n < s.size
  · have hd : decide (((p + n : Nat) : Int) < (s.size : Int)) = true := by simp; omega
    have hb : (0 : Int) ≤ ((p + n : Nat) : Int) ∧ ((p + n : Nat) : Int) < (s.size : Int) := by omega
    have hsp := sp_f b hlt
    generalize digitF (byteAt s (p + n : Nat)) = x at D hsp
    generalize letterF (byteAt s (p + n : Nat)) = y at L hsp
    cases x <;> cases y <;> cases b
    all_goals
      repeat' first | ((refine cs (fun _ => ?_) (fun g => absurd (hd.symm.trans g) (by decide)); conv => whnf)) | ((refine And.intro hb ?_; conv => whnf)) | refine AW.seq ?_ | refine AW.block ?_ | ((first | refine AW.region tab_ok ?_ | refine AW.cond ?_ | refine AW.skip ?_ | refine AW.ret ?_ | refine AW.exit ?_); conv => whnf) | ((first | refine (D).mono ?_ | refine (L).mono ?_); rintro _ _ ⟨rfl, rfl⟩; conv => whnf) | ((first | refine And.intro (@rfl Val _) ?_ | refine And.intro (by decide) ?_ | refine cs (fun _ => ?_) (fun _ => ?_)) <;> conv => whnf)
    all_goals first
      | (rw [if_pos (by decide)] at hsp
         rw [wrap64 (by omega) (by omega)]
         exact ⟨⟨n + 1, by omega, by rw [hx, hsp, show p + (n + 1) = p + n + 1 by omega]; omega⟩, ⟨⟨rfl, rfl, rfl, trivial⟩, rfl, rfl, ⟨[], rfl⟩, rfl⟩, show s.size - (p + (n + 1)) < s.size - (p + n) by omega⟩)
      | (rw [if_neg (by decide)] at hsp
         rw [hx, hsp]
         exact ⟨rfl, rfl⟩)
     
  · have hd : decide (((p + n : Nat) : Int) < (s.size : Int)) = false := by simp; omega
    have e1 : restL s (p + n) = [] := restL_end hlt
    repeat' first | ((refine cs (fun g => absurd (hd.symm.trans g) (by decide)) (fun _ => ?_); conv => whnf)) | refine AW.seq ?_ | refine AW.block ?_ | ((first | refine AW.region tab_ok ?_ | refine AW.cond ?_ | refine AW.skip ?_ | refine AW.ret ?_ | refine AW.exit ?_); conv => whnf) | ((first | refine And.intro (@rfl Val _) ?_ | refine And.intro (by decide) ?_ | refine cs (fun _ => ?_) (fun _ => ?_)) <;> conv => whnf)
    rw [hx, e1]
    first | exact ⟨rfl, rfl⟩
def sigB : ByteArray := ⟨#[92, 46, 58, 61, 40, 41, 91, 93, 123, 125, 44, 124, 43, 45, 42, 47, 60, 62, 63, 59]⟩
def isSig (c : Int) : Bool := decide (c ∈ signsI) || decide (c = 45)
theorem sig_iff (c : Int) : isSig c = true ↔ ∃ j : Nat, j < 20 ∧ byteAt sigB (j : Nat) = c := by
  simp only [isSig, Bool.or_eq_true, decide_eq_true_eq]
  constructor
  · intro h
    simp only [signsI, List.mem_cons, List.not_mem_nil, or_false] at h
    rcases h with (rfl | rfl | rfl | rfl | rfl | rfl | rfl | rfl | rfl | rfl | rfl | rfl | rfl | rfl | rfl | rfl | rfl | rfl | rfl) | rfl
    all_goals first | exact ⟨0, by decide, by decide⟩ | exact ⟨1, by decide, by decide⟩ | exact ⟨2, by decide, by decide⟩ | exact ⟨3, by decide, by decide⟩ | exact ⟨4, by decide, by decide⟩ | exact ⟨5, by decide, by decide⟩ | exact ⟨6, by decide, by decide⟩ | exact ⟨7, by decide, by decide⟩ | exact ⟨8, by decide, by decide⟩ | exact ⟨9, by decide, by decide⟩ | exact ⟨10, by decide, by decide⟩ | exact ⟨11, by decide, by decide⟩ | exact ⟨12, by decide, by decide⟩ | exact ⟨13, by decide, by decide⟩ | exact ⟨14, by decide, by decide⟩ | exact ⟨15, by decide, by decide⟩ | exact ⟨16, by decide, by decide⟩ | exact ⟨17, by decide, by decide⟩ | exact ⟨18, by decide, by decide⟩ | exact ⟨19, by decide, by decide⟩
  · rintro ⟨j, hj, rfl⟩
    have : ∀ j, j < 20 → byteAt sigB (j : Nat) ∈ signsI ∨ byteAt sigB (j : Nat) = 45 := by decide
    exact this j hj
structure SgI (c : Int) where
  i : Nat
  hi : i ≤ 20
  h : ∀ j, j < i → byteAt sigB (j : Nat) ≠ c
set_option maxRecDepth 10000 in
set_option maxHeartbeats 1000000 in
theorem rsign_call (c : Int) : ACall Tryz.prog 83 [.c (.d (.int .u8 c))] [] (fun o σ => o = .ret (.c (.d (.bool (isSig c)))) ∧ σ = []) := by
  refine ACall.body tab_ok (ρ := 0) (N := 12) Tryz.func83 rfl rfl rfl rfl rfl ?_
  repeat' first | refine AW.seq ?_ | refine AW.block ?_ | ((first | refine AW.region tab_ok ?_ | refine AW.cond ?_ | refine AW.skip ?_ | refine AW.ret ?_ | refine AW.exit ?_); conv => whnf) | ((first | refine And.intro (@rfl Val _) ?_ | refine And.intro (by decide) ?_ | refine cs (fun _ => ?_) (fun _ => ?_)) <;> conv => whnf)
  refine AW.loop (ι := SgI c) (fun x => ⟨12, [(3, .c (.d (.int .i64 x.i))), (0, .c (.d (.int .u8 c)))], [], []⟩) (fun x => 20 - x.i) ⟨0, by decide, fun j hj => absurd hj (Nat.not_lt_zero _)⟩ 0 (fun _ => rfl) (Nat.le_of_ble_eq_true rfl) ⟨⟨rfl, rfl, trivial⟩, rfl, rfl, ⟨[], rfl⟩, rfl⟩ (fun x => ?_)
  obtain ⟨i, hi, hx⟩ := x
  dsimp only
  by_cases hlt : i < 20
  · have hd : decide ((i : Int) < 20) = true := by simp; omega
    have hb : (0 : Int) ≤ (i : Int) ∧ (i : Int) < ((ByteArray.size sigB : Nat) : Int) := ⟨by omega, by show (i : Int) < 20; omega⟩
    repeat' first | ((refine cs (fun _ => ?_) (fun g => absurd (hd.symm.trans g) (by decide)); conv => whnf)) | ((refine And.intro hb ?_; conv => whnf)) | refine AW.seq ?_ | refine AW.block ?_ | ((first | refine AW.region tab_ok ?_ | refine AW.cond ?_ | refine AW.skip ?_ | refine AW.ret ?_ | refine AW.exit ?_); conv => whnf) | ((first | refine And.intro (@rfl Val _) ?_ | refine And.intro (by decide) ?_ | refine cs (fun _ => ?_) (fun _ => ?_)) <;> conv => whnf)
    all_goals
      rename_i hc
      first
        | (have hc : byteAt sigB (i : Nat) = c := by simpa [sigB] using hc
           rw [(sig_iff c).2 ⟨i, hlt, hc⟩]
           exact ⟨rfl, rfl⟩)
        | (have hc : ¬ byteAt sigB (i : Nat) = c := by simpa [sigB] using hc
           rw [wrap64 (by omega) (by omega)]
           exact ⟨⟨i + 1, by omega, fun j hj => by rcases Nat.lt_or_eq_of_le (Nat.le_of_lt_succ hj) with h | rfl; exact hx j h; exact hc⟩, ⟨⟨rfl, rfl, trivial⟩, rfl, rfl, ⟨[], rfl⟩, rfl⟩, show 20 - (i + 1) < 20 - i by omega⟩)
       
  · have hd : decide ((i : Int) < 20) = false := by simp; omega
    repeat' first | ((refine cs (fun g => absurd (hd.symm.trans g) (by decide)) (fun _ => ?_); conv => whnf)) | refine AW.seq ?_ | refine AW.block ?_ | ((first | refine AW.region tab_ok ?_ | refine AW.cond ?_ | refine AW.skip ?_ | refine AW.ret ?_ | refine AW.exit ?_); conv => whnf) | ((first | refine And.intro (@rfl Val _) ?_ | refine And.intro (by decide) ?_ | refine cs (fun _ => ?_) (fun _ => ?_)) <;> conv => whnf)
    have : isSig c = false := by
      cases hs : isSig c with
      | false => rfl
      | true =>
        obtain ⟨j, hj, e⟩ := (sig_iff c).1 hs
        exact absurd e (hx j (by omega))
    rw [this]
    first | exact ⟨rfl, rfl⟩
end Go.Proofs.YtmaokphbfjpodaaGreatDoor.E
