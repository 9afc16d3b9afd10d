/- Free names in the document's answer: free. No conditions. -/
import Derived.Test.YthmbncehoblgpaaGreatDoorGenX9
import Derived.Test.YthmbncehoblgpaaGreatDoorEngX3
set_option linter.unusedVariables false
set_option linter.unusedSimpArgs false
namespace Go.Proofs.YthmbncehoblgpaaGreatDoor.E
open Go

mutual
def rfree : Tm → List ByteArray → List ByteArray → List ByteArray
  | .node k name arg _ _ _ _ _ _ _ ks, b, l => if k = 0 then (if inF b name then l else if inF l name then l else l ++ [name]) else rfrees ks (wsK k name arg) b l
def rfrees : List Tm → List (List ByteArray) → List ByteArray → List ByteArray → List ByteArray
  | [], _, _, l => l
  | t :: ts, w, b, l => rfrees ts w.tail b (rfree t (b ++ w.headD []) l)
end
theorem rfree_len (t : Tm) : ∀ b l, (rfree t b l).length ≤ l.length + tmN t := by
  induction t using Tm.ind with
  | _ k name arg num tk tks uk uks label place ks ih =>
  intro b l
  simp only [rfree, tmN]
  split
  · split
    · omega
    · split
      · omega
      · simp only [List.length_append, List.length_cons, List.length_nil]; omega
  · have : ∀ (ks : List Tm), (∀ t ∈ ks, ∀ b l, (rfree t b l).length ≤ l.length + tmN t) → ∀ (w : List (List ByteArray)) (b l : List ByteArray), (rfrees ks w b l).length ≤ l.length + tmNL ks := by
      intro ks
      induction ks with
      | nil => intro _ w b l; simp [rfrees]
      | cons t ts il =>
        intro hk w b l
        simp only [rfrees, tmNL]
        have h1 := il (fun t ht => hk t (List.mem_cons_of_mem _ ht)) w.tail b (rfree t (b ++ w.headD []) l)
        have h2 := hk t (by simp) (b ++ w.headD []) l
        omega
    have := this ks (fun t ht => ih t ht) (wsK k name arg) b l
    omega
theorem rfrees_take : ∀ (ks : List Tm) (i : Nat) t (b l : List ByteArray), ks[i]? = some t → rfrees (ks.take (i + 1)) [] b l = rfree t b (rfrees (ks.take i) [] b l)
  | x :: ks, 0, t, b, l, h => by simp at h; subst h; simp [rfrees]
  | x :: ks, i + 1, t, b, l, h => by
    simp only [List.getElem?_cons_succ] at h
    have := rfrees_take ks i t b (rfree x b l) h
    simp only [List.take_succ_cons, rfrees, List.tail_nil, List.headD_nil, List.append_nil, this]
theorem rfrees_len (ks : List Tm) : ∀ (w : List (List ByteArray)) (b l : List ByteArray), (rfrees ks w b l).length ≤ l.length + tmNL ks := by
  induction ks with
  | nil => intro w b l; simp [rfrees]
  | cons t ts il =>
    intro w b l
    simp only [rfrees, tmNL]
    have h1 := il w.tail b (rfree t (b ++ w.headD []) l)
    have h2 := rfree_len t (b ++ w.headD []) l
    omega
theorem tmNL_take_le (ks : List Tm) (i : Nat) : tmNL (ks.take i) ≤ tmNL ks := by
  induction ks generalizing i with
  | nil => simp [tmNL]
  | cons t ks ih =>
    cases i with
    | zero => simp [tmNL]
    | succ i =>
      have := ih i
      simp only [List.take_succ_cons, tmNL]; omega
def FreeC (t : Tm) : Prop := ∀ (b l : List ByteArray), b.length + 2 * tmN t ≤ 500000 → l.length + tmN t ≤ 500000 →
  ACall Tryz.prog 67 [t.val, .c (.d (.sl 0 1 (strs b))), .c (.own 0 (strs l).length)] [.row 9 1 (strs l)] (fun o σ => o = .ret (.c (.own 0 (strs (rfree t b l)).length)) ∧ σ = [.row 9 1 (strs (rfree t b l))])
set_option maxRecDepth 10000 in
set_option maxHeartbeats 1000000 in
theorem rfree_call (t : Tm) : tmright t = true → tmN t ≤ 8192 → FreeC t := by
  induction t using Tm.ind with
  | _ k name arg num tk tks uk uks label place ks ih =>
  intro hr hN b l hb hl
  have hlen := tmNL_len ks
  simp only [tmN] at hN hb hl
  have ih' : ∀ t ∈ ks, FreeC t := fun t ht => ih t ht (tmright_kid hr ht) (by have := tmN_mem ks t ht; omega)
  have hl8 : ks.length ≤ 8192 := by omega
  have hkl := tmright_len hr
  clear ih hr
  by_cases h0 : k = 0
  · subst h0
    have c1 := in_call b name (by omega)
    have c2 := inO_call l name (by omega)
    simp only [rfree, if_true]
    cases e1 : inF b name with
    | true =>
      rw [e1] at c1
      simp only [if_true]
      refine ACall.body tab_ok (ρ := 0) (N := 121) Tryz.func67 rfl rfl rfl rfl rfl ?_
      repeat' first | refine AW.seq ?_ | refine AW.block ?_ | (refine (_root_.id : AW _ _ _ (.region 7 _ true) _ _ → _) ?_; refine AW.draw (id := 7) tab_ok mixed [0, 1, 2, 3, 4, 5, 6, 8, 7, 9, 10] (by kernel_rfl) ?_; conv => whnf) | (refine (_root_.id : AW _ _ _ (.region 9 _ true) _ _ → _) ?_; refine AW.draw (id := 9) tab_ok mixed [0, 1, 2, 3, 4, 5, 6, 8, 9, 11, 7, 10, 12, 13] (by kernel_rfl) ?_; conv => whnf) | (refine (_root_.id : AW _ _ _ (.region 12 _ true) _ _ → _) ?_; refine AW.draw (id := 12) tab_ok mixed [0, 1, 2, 3, 4, 5, 6, 8, 7, 9, 10] (by kernel_rfl) ?_; conv => whnf) | (refine (_root_.id : AW _ _ _ (.region 15 _ true) _ _ → _) ?_; refine AW.draw (id := 15) tab_ok mixed [0, 1, 2, 3, 4, 5, 6, 8, 7, 9, 10] (by kernel_rfl) ?_; conv => whnf) | (refine (_root_.id : AW _ _ _ (.region 16 _ true) _ _ → _) ?_; refine AW.draw (id := 16) tab_ok mixed [0, 1, 2, 3, 4, 5, 6, 8, 7, 9, 10] (by kernel_rfl) ?_; conv => whnf) | ((first | refine AW.region tab_ok ?_ | refine AW.cond ?_ | refine AW.skip ?_ | refine AW.ret ?_ | refine AW.exit ?_); conv => whnf) | ((first | refine (c1).mono ?_ | refine (c2).mono ?_); rintro _ _ ⟨rfl, rfl⟩; conv => whnf) | ((first | refine And.intro (@rfl Val _) ?_ | refine And.intro (by decide) ?_ | refine cs (fun _ => ?_) (fun _ => ?_)) <;> conv => whnf)
      all_goals exact ⟨rfl, rfl⟩
    | false =>
      rw [e1] at c1
      simp only [Bool.false_eq_true, if_false]
      cases e2 : inF l name with
      | true =>
        rw [e2] at c2
        simp only [if_true]
        refine ACall.body tab_ok (ρ := 0) (N := 121) Tryz.func67 rfl rfl rfl rfl rfl ?_
        repeat' first | refine AW.seq ?_ | refine AW.block ?_ | (refine (_root_.id : AW _ _ _ (.region 7 _ true) _ _ → _) ?_; refine AW.draw (id := 7) tab_ok mixed [0, 1, 2, 3, 4, 5, 6, 8, 7, 9, 10] (by kernel_rfl) ?_; conv => whnf) | (refine (_root_.id : AW _ _ _ (.region 9 _ true) _ _ → _) ?_; refine AW.draw (id := 9) tab_ok mixed [0, 1, 2, 3, 4, 5, 6, 8, 9, 11, 7, 10, 12, 13] (by kernel_rfl) ?_; conv => whnf) | (refine (_root_.id : AW _ _ _ (.region 12 _ true) _ _ → _) ?_; refine AW.draw (id := 12) tab_ok mixed [0, 1, 2, 3, 4, 5, 6, 8, 7, 9, 10] (by kernel_rfl) ?_; conv => whnf) | (refine (_root_.id : AW _ _ _ (.region 15 _ true) _ _ → _) ?_; refine AW.draw (id := 15) tab_ok mixed [0, 1, 2, 3, 4, 5, 6, 8, 7, 9, 10] (by kernel_rfl) ?_; conv => whnf) | (refine (_root_.id : AW _ _ _ (.region 16 _ true) _ _ → _) ?_; refine AW.draw (id := 16) tab_ok mixed [0, 1, 2, 3, 4, 5, 6, 8, 7, 9, 10] (by kernel_rfl) ?_; conv => whnf) | ((first | refine AW.region tab_ok ?_ | refine AW.cond ?_ | refine AW.skip ?_ | refine AW.ret ?_ | refine AW.exit ?_); conv => whnf) | ((first | refine (c1).mono ?_ | refine (c2).mono ?_); rintro _ _ ⟨rfl, rfl⟩; conv => whnf) | ((first | refine And.intro (@rfl Val _) ?_ | refine And.intro (by decide) ?_ | refine cs (fun _ => ?_) (fun _ => ?_)) <;> conv => whnf)
        all_goals exact ⟨rfl, rfl⟩
      | false =>
        rw [e2] at c2
        simp only [Bool.false_eq_true, if_false]
        refine ACall.body tab_ok (ρ := 0) (N := 121) Tryz.func67 rfl rfl rfl rfl rfl ?_
        repeat' first | refine AW.seq ?_ | refine AW.block ?_ | (refine (_root_.id : AW _ _ _ (.region 7 _ true) _ _ → _) ?_; refine AW.draw (id := 7) tab_ok mixed [0, 1, 2, 3, 4, 5, 6, 8, 7, 9, 10] (by kernel_rfl) ?_; conv => whnf) | (refine (_root_.id : AW _ _ _ (.region 9 _ true) _ _ → _) ?_; refine AW.draw (id := 9) tab_ok mixed [0, 1, 2, 3, 4, 5, 6, 8, 9, 11, 7, 10, 12, 13] (by kernel_rfl) ?_; conv => whnf) | (refine (_root_.id : AW _ _ _ (.region 12 _ true) _ _ → _) ?_; refine AW.draw (id := 12) tab_ok mixed [0, 1, 2, 3, 4, 5, 6, 8, 7, 9, 10] (by kernel_rfl) ?_; conv => whnf) | (refine (_root_.id : AW _ _ _ (.region 15 _ true) _ _ → _) ?_; refine AW.draw (id := 15) tab_ok mixed [0, 1, 2, 3, 4, 5, 6, 8, 7, 9, 10] (by kernel_rfl) ?_; conv => whnf) | (refine (_root_.id : AW _ _ _ (.region 16 _ true) _ _ → _) ?_; refine AW.draw (id := 16) tab_ok mixed [0, 1, 2, 3, 4, 5, 6, 8, 7, 9, 10] (by kernel_rfl) ?_; conv => whnf) | ((first | refine AW.region tab_ok ?_ | refine AW.cond ?_ | refine AW.skip ?_ | refine AW.ret ?_ | refine AW.exit ?_); conv => whnf) | ((first | refine (c1).mono ?_ | refine (c2).mono ?_); rintro _ _ ⟨rfl, rfl⟩; conv => whnf) | ((first | refine And.intro (@rfl Val _) ?_ | refine And.intro (by decide) ?_ | refine cs (fun _ => ?_) (fun _ => ?_)) <;> conv => whnf)
        refine ⟨⟨rfl, ?_, ?_⟩, ?_⟩
        · simp only [strs_len, List.length_cons, List.length_nil]; omega
        · simp only [strs_len, List.length_cons, List.length_nil]; omega
        conv => whnf
        repeat' first | refine AW.seq ?_ | refine AW.block ?_ | (refine (_root_.id : AW _ _ _ (.region 7 _ true) _ _ → _) ?_; refine AW.draw (id := 7) tab_ok mixed [0, 1, 2, 3, 4, 5, 6, 8, 7, 9, 10] (by kernel_rfl) ?_; conv => whnf) | (refine (_root_.id : AW _ _ _ (.region 9 _ true) _ _ → _) ?_; refine AW.draw (id := 9) tab_ok mixed [0, 1, 2, 3, 4, 5, 6, 8, 9, 11, 7, 10, 12, 13] (by kernel_rfl) ?_; conv => whnf) | (refine (_root_.id : AW _ _ _ (.region 12 _ true) _ _ → _) ?_; refine AW.draw (id := 12) tab_ok mixed [0, 1, 2, 3, 4, 5, 6, 8, 7, 9, 10] (by kernel_rfl) ?_; conv => whnf) | (refine (_root_.id : AW _ _ _ (.region 15 _ true) _ _ → _) ?_; refine AW.draw (id := 15) tab_ok mixed [0, 1, 2, 3, 4, 5, 6, 8, 7, 9, 10] (by kernel_rfl) ?_; conv => whnf) | (refine (_root_.id : AW _ _ _ (.region 16 _ true) _ _ → _) ?_; refine AW.draw (id := 16) tab_ok mixed [0, 1, 2, 3, 4, 5, 6, 8, 7, 9, 10] (by kernel_rfl) ?_; conv => whnf) | ((first | refine AW.region tab_ok ?_ | refine AW.cond ?_ | refine AW.skip ?_ | refine AW.ret ?_ | refine AW.exit ?_); conv => whnf) | ((first | refine (c1).mono ?_ | refine (c2).mono ?_); rintro _ _ ⟨rfl, rfl⟩; conv => whnf) | ((first | refine And.intro (@rfl Val _) ?_ | refine And.intro (by decide) ?_ | refine cs (fun _ => ?_) (fun _ => ?_)) <;> conv => whnf)
        rw [strs_app]
        refine ⟨?_, rfl⟩
        rw [List.length_append]
        rfl
  have g : ∀ m, rfree (.node k name arg num tk tks uk uks label place ks) b m = rfrees ks (wsK k name arg) b m := fun m => by simp only [rfree, if_neg h0]
  simp only [g]
  by_cases h4 : k = 4
  · subst h4
    obtain ⟨a, rfl⟩ : ∃ a, ks = [a] := by
      have hk1 : ks.length = 1 := by simp [kidsK] at hkl; omega
      match ks, hk1 with
      | [a], _ => exact ⟨a, rfl⟩
    simp only [tmNL] at hb hl
    have w1 := with_call b name (by omega)
    have ia := ih' a (by simp) (b ++ [name]) l (by simp; omega) (by omega)
    simp only [rfrees, wsK]
    obtain ⟨ka, na, ga, ua, tka, tsa, uka, usa, la, pa, ksa⟩ := a
    refine ACall.body tab_ok (ρ := 0) (N := 121) Tryz.func67 rfl rfl rfl rfl rfl ?_
    repeat' first | ((refine ⟨by simp [trows_length], fun row hrow => ?_⟩; simp [Tm.rows] at hrow; subst hrow; conv => whnf)) | refine AW.seq ?_ | refine AW.block ?_ | (refine (_root_.id : AW _ _ _ (.region 7 _ true) _ _ → _) ?_; refine AW.draw (id := 7) tab_ok mixed [0, 1, 2, 3, 4, 5, 6, 8, 7, 9, 10] (by kernel_rfl) ?_; conv => whnf) | (refine (_root_.id : AW _ _ _ (.region 9 _ true) _ _ → _) ?_; refine AW.draw (id := 9) tab_ok mixed [0, 1, 2, 3, 4, 5, 6, 8, 9, 11, 7, 10, 12, 13] (by kernel_rfl) ?_; conv => whnf) | (refine (_root_.id : AW _ _ _ (.region 12 _ true) _ _ → _) ?_; refine AW.draw (id := 12) tab_ok mixed [0, 1, 2, 3, 4, 5, 6, 8, 7, 9, 10] (by kernel_rfl) ?_; conv => whnf) | (refine (_root_.id : AW _ _ _ (.region 15 _ true) _ _ → _) ?_; refine AW.draw (id := 15) tab_ok mixed [0, 1, 2, 3, 4, 5, 6, 8, 7, 9, 10] (by kernel_rfl) ?_; conv => whnf) | (refine (_root_.id : AW _ _ _ (.region 16 _ true) _ _ → _) ?_; refine AW.draw (id := 16) tab_ok mixed [0, 1, 2, 3, 4, 5, 6, 8, 7, 9, 10] (by kernel_rfl) ?_; conv => whnf) | ((first | refine AW.region tab_ok ?_ | refine AW.cond ?_ | refine AW.skip ?_ | refine AW.ret ?_ | refine AW.exit ?_); conv => whnf) | ((first | refine (w1).mono ?_ | refine (ia).mono ?_); rintro _ _ ⟨rfl, rfl⟩; conv => whnf) | ((first | refine And.intro (@rfl Val _) ?_ | refine And.intro (by decide) ?_ | refine cs (fun _ => ?_) (fun _ => ?_)) <;> conv => whnf)
    exact ⟨rfl, rfl⟩
  by_cases h5 : k = 5
  · subst h5
    obtain ⟨a, rfl⟩ : ∃ a, ks = [a] := by
      have hk1 : ks.length = 1 := by simp [kidsK] at hkl; omega
      match ks, hk1 with
      | [a], _ => exact ⟨a, rfl⟩
    simp only [tmNL] at hb hl
    have w1 := with_call b name (by omega)
    have w2 := with_call (b ++ [name]) arg (by simp; omega)
    have e : b ++ [name] ++ [arg] = b ++ [name, arg] := by simp
    rw [e] at w2
    have ia := ih' a (by simp) (b ++ [name, arg]) l (by simp; omega) (by omega)
    simp only [rfrees, wsK]
    obtain ⟨ka, na, ga, ua, tka, tsa, uka, usa, la, pa, ksa⟩ := a
    refine ACall.body tab_ok (ρ := 0) (N := 121) Tryz.func67 rfl rfl rfl rfl rfl ?_
    repeat' first | ((refine ⟨by simp [trows_length], fun row hrow => ?_⟩; simp [Tm.rows] at hrow; subst hrow; conv => whnf)) | refine AW.seq ?_ | refine AW.block ?_ | (refine (_root_.id : AW _ _ _ (.region 7 _ true) _ _ → _) ?_; refine AW.draw (id := 7) tab_ok mixed [0, 1, 2, 3, 4, 5, 6, 8, 7, 9, 10] (by kernel_rfl) ?_; conv => whnf) | (refine (_root_.id : AW _ _ _ (.region 9 _ true) _ _ → _) ?_; refine AW.draw (id := 9) tab_ok mixed [0, 1, 2, 3, 4, 5, 6, 8, 9, 11, 7, 10, 12, 13] (by kernel_rfl) ?_; conv => whnf) | (refine (_root_.id : AW _ _ _ (.region 12 _ true) _ _ → _) ?_; refine AW.draw (id := 12) tab_ok mixed [0, 1, 2, 3, 4, 5, 6, 8, 7, 9, 10] (by kernel_rfl) ?_; conv => whnf) | (refine (_root_.id : AW _ _ _ (.region 15 _ true) _ _ → _) ?_; refine AW.draw (id := 15) tab_ok mixed [0, 1, 2, 3, 4, 5, 6, 8, 7, 9, 10] (by kernel_rfl) ?_; conv => whnf) | (refine (_root_.id : AW _ _ _ (.region 16 _ true) _ _ → _) ?_; refine AW.draw (id := 16) tab_ok mixed [0, 1, 2, 3, 4, 5, 6, 8, 7, 9, 10] (by kernel_rfl) ?_; conv => whnf) | ((first | refine AW.region tab_ok ?_ | refine AW.cond ?_ | refine AW.skip ?_ | refine AW.ret ?_ | refine AW.exit ?_); conv => whnf) | ((first | refine (w1).mono ?_ | refine (w2).mono ?_ | refine (ia).mono ?_); rintro _ _ ⟨rfl, rfl⟩; conv => whnf) | ((first | refine And.intro (@rfl Val _) ?_ | refine And.intro (by decide) ?_ | refine cs (fun _ => ?_) (fun _ => ?_)) <;> conv => whnf)
    exact ⟨rfl, rfl⟩
  by_cases h7 : k = 7
  · subst h7
    obtain ⟨a, c, rfl⟩ : ∃ a c, ks = [a, c] := by
      have hk1 : ks.length = 2 := by simp [kidsK] at hkl; omega
      match ks, hk1 with
      | [a, c], _ => exact ⟨a, c, rfl⟩
    simp only [tmNL] at hb hl
    have w1 := with_call b name (by omega)
    have l1 := rfree_len a b l
    have ia := ih' a (by simp) b l (by omega) (by omega)
    have ic := ih' c (by simp) (b ++ [name]) (rfree a b l) (by simp; omega) (by omega)
    have e : rfrees [a, c] (wsK 7 name arg) b l = rfree c (b ++ [name]) (rfree a b l) := by simp [rfrees, wsK]
    rw [e]
    generalize rfree a b l = la at *
    obtain ⟨ka, na, ga, ua, tka, tsa, uka, usa, la, pa, ksa⟩ := a
    obtain ⟨kc, nc, gc, uc, tkc, tsc, ukc, usc, lc, pc, ksc⟩ := c
    refine ACall.body tab_ok (ρ := 0) (N := 121) Tryz.func67 rfl rfl rfl rfl rfl ?_
    repeat' first | ((refine ⟨by simp [trows_length], fun row hrow => ?_⟩; simp [Tm.rows] at hrow; subst hrow; conv => whnf)) | refine AW.seq ?_ | refine AW.block ?_ | (refine (_root_.id : AW _ _ _ (.region 7 _ true) _ _ → _) ?_; refine AW.draw (id := 7) tab_ok mixed [0, 1, 2, 3, 4, 5, 6, 8, 7, 9, 10] (by kernel_rfl) ?_; conv => whnf) | (refine (_root_.id : AW _ _ _ (.region 9 _ true) _ _ → _) ?_; refine AW.draw (id := 9) tab_ok mixed [0, 1, 2, 3, 4, 5, 6, 8, 9, 11, 7, 10, 12, 13] (by kernel_rfl) ?_; conv => whnf) | (refine (_root_.id : AW _ _ _ (.region 12 _ true) _ _ → _) ?_; refine AW.draw (id := 12) tab_ok mixed [0, 1, 2, 3, 4, 5, 6, 8, 7, 9, 10] (by kernel_rfl) ?_; conv => whnf) | (refine (_root_.id : AW _ _ _ (.region 15 _ true) _ _ → _) ?_; refine AW.draw (id := 15) tab_ok mixed [0, 1, 2, 3, 4, 5, 6, 8, 7, 9, 10] (by kernel_rfl) ?_; conv => whnf) | (refine (_root_.id : AW _ _ _ (.region 16 _ true) _ _ → _) ?_; refine AW.draw (id := 16) tab_ok mixed [0, 1, 2, 3, 4, 5, 6, 8, 7, 9, 10] (by kernel_rfl) ?_; conv => whnf) | ((first | refine AW.region tab_ok ?_ | refine AW.cond ?_ | refine AW.skip ?_ | refine AW.ret ?_ | refine AW.exit ?_); conv => whnf) | ((first | refine (w1).mono ?_ | refine (ia).mono ?_ | refine (ic).mono ?_); rintro _ _ ⟨rfl, rfl⟩; conv => whnf) | ((first | refine And.intro (@rfl Val _) ?_ | refine And.intro (by decide) ?_ | refine cs (fun _ => ?_) (fun _ => ?_)) <;> conv => whnf)
    exact ⟨rfl, rfl⟩
  by_cases h14 : k = 14
  · subst h14
    obtain ⟨a, c, d, rfl⟩ : ∃ a c d, ks = [a, c, d] := by
      have hk1 : ks.length = 3 := by simp [kidsK] at hkl; omega
      match ks, hk1 with
      | [a, c, d], _ => exact ⟨a, c, d, rfl⟩
    simp only [tmNL] at hb hl
    have w1 := with_call b name (by omega)
    have w2 := with_call b arg (by omega)
    have l1 := rfree_len a b l
    have l2 := rfree_len c (b ++ [name]) (rfree a b l)
    have ia := ih' a (by simp) b l (by omega) (by omega)
    have ic := ih' c (by simp) (b ++ [name]) (rfree a b l) (by simp; omega) (by omega)
    have id := ih' d (by simp) (b ++ [arg]) (rfree c (b ++ [name]) (rfree a b l)) (by simp; omega) (by omega)
    have e : rfrees [a, c, d] (wsK 14 name arg) b l = rfree d (b ++ [arg]) (rfree c (b ++ [name]) (rfree a b l)) := by simp [rfrees, wsK]
    rw [e]
    generalize rfree a b l = la at *
    generalize rfree c (b ++ [name]) la = lc at *
    obtain ⟨ka, na, ga, ua, tka, tsa, uka, usa, la, pa, ksa⟩ := a
    obtain ⟨kc, nc, gc, uc, tkc, tsc, ukc, usc, lc, pc, ksc⟩ := c
    obtain ⟨kd, nd, gd, ud, tkd, tsd, ukd, usd, ld, pd, ksd⟩ := d
    refine ACall.body tab_ok (ρ := 0) (N := 121) Tryz.func67 rfl rfl rfl rfl rfl ?_
    repeat' first | ((refine ⟨by simp [trows_length], fun row hrow => ?_⟩; simp [Tm.rows] at hrow; subst hrow; conv => whnf)) | refine AW.seq ?_ | refine AW.block ?_ | (refine (_root_.id : AW _ _ _ (.region 7 _ true) _ _ → _) ?_; refine AW.draw (id := 7) tab_ok mixed [0, 1, 2, 3, 4, 5, 6, 8, 7, 9, 10] (by kernel_rfl) ?_; conv => whnf) | (refine (_root_.id : AW _ _ _ (.region 9 _ true) _ _ → _) ?_; refine AW.draw (id := 9) tab_ok mixed [0, 1, 2, 3, 4, 5, 6, 8, 9, 11, 7, 10, 12, 13] (by kernel_rfl) ?_; conv => whnf) | (refine (_root_.id : AW _ _ _ (.region 12 _ true) _ _ → _) ?_; refine AW.draw (id := 12) tab_ok mixed [0, 1, 2, 3, 4, 5, 6, 8, 7, 9, 10] (by kernel_rfl) ?_; conv => whnf) | (refine (_root_.id : AW _ _ _ (.region 15 _ true) _ _ → _) ?_; refine AW.draw (id := 15) tab_ok mixed [0, 1, 2, 3, 4, 5, 6, 8, 7, 9, 10] (by kernel_rfl) ?_; conv => whnf) | (refine (_root_.id : AW _ _ _ (.region 16 _ true) _ _ → _) ?_; refine AW.draw (id := 16) tab_ok mixed [0, 1, 2, 3, 4, 5, 6, 8, 7, 9, 10] (by kernel_rfl) ?_; conv => whnf) | ((first | refine AW.region tab_ok ?_ | refine AW.cond ?_ | refine AW.skip ?_ | refine AW.ret ?_ | refine AW.exit ?_); conv => whnf) | ((first | refine (w1).mono ?_ | refine (w2).mono ?_ | refine (ia).mono ?_ | refine (ic).mono ?_ | refine (id).mono ?_); rintro _ _ ⟨rfl, rfl⟩; conv => whnf) | ((first | refine And.intro (@rfl Val _) ?_ | refine And.intro (by decide) ?_ | refine cs (fun _ => ?_) (fun _ => ?_)) <;> conv => whnf)
    exact ⟨rfl, rfl⟩
  have b0 : (k == 0) = false := by simpa using h0
  have b4 : (k == 4) = false := by simpa using h4
  have b5 : (k == 5) = false := by simpa using h5
  have b7 : (k == 7) = false := by simpa using h7
  have b14 : (k == 14) = false := by simpa using h14
  have hw : wsK k name arg = [] := by simp only [wsK, if_neg h4, if_neg h5, if_neg h7, if_neg h14]
  simp only [hw]
  clear g hw hkl h0 h4 h5 h7 h14
  refine ACall.body tab_ok (ρ := 0) (N := 121) Tryz.func67 rfl rfl rfl rfl rfl ?_
  repeat' first | ((refine cs (fun h => absurd h (by first | (rw [b0]; decide) | (rw [b4]; decide) | (rw [b5]; decide) | (rw [b7]; decide) | (rw [b14]; decide))) (fun _ => ?_); conv => whnf)) | refine AW.seq ?_ | refine AW.block ?_ | (refine (_root_.id : AW _ _ _ (.region 7 _ true) _ _ → _) ?_; refine AW.draw (id := 7) tab_ok mixed [0, 1, 2, 3, 4, 5, 6, 8, 7, 9, 10] (by kernel_rfl) ?_; conv => whnf) | (refine (_root_.id : AW _ _ _ (.region 9 _ true) _ _ → _) ?_; refine AW.draw (id := 9) tab_ok mixed [0, 1, 2, 3, 4, 5, 6, 8, 9, 11, 7, 10, 12, 13] (by kernel_rfl) ?_; conv => whnf) | (refine (_root_.id : AW _ _ _ (.region 12 _ true) _ _ → _) ?_; refine AW.draw (id := 12) tab_ok mixed [0, 1, 2, 3, 4, 5, 6, 8, 7, 9, 10] (by kernel_rfl) ?_; conv => whnf) | (refine (_root_.id : AW _ _ _ (.region 15 _ true) _ _ → _) ?_; refine AW.draw (id := 15) tab_ok mixed [0, 1, 2, 3, 4, 5, 6, 8, 7, 9, 10] (by kernel_rfl) ?_; conv => whnf) | (refine (_root_.id : AW _ _ _ (.region 16 _ true) _ _ → _) ?_; refine AW.draw (id := 16) tab_ok mixed [0, 1, 2, 3, 4, 5, 6, 8, 7, 9, 10] (by kernel_rfl) ?_; conv => whnf) | ((first | refine AW.region tab_ok ?_ | refine AW.cond ?_ | refine AW.skip ?_ | refine AW.ret ?_ | refine AW.exit ?_); conv => whnf) | ((first | refine And.intro (@rfl Val _) ?_ | refine And.intro (by decide) ?_ | refine cs (fun _ => ?_) (fun _ => ?_)) <;> conv => whnf)
  refine AW.loop (ι := FreeI ks) (fun x => ⟨121, [(7, .c (.d (.int .i64 x.i))), (1, .c (.d (.sl 0 1 (strs b)))), (2, .c (.own 0 (strs (rfrees (ks.take x.i) [] b l)).length)), (3, .c (.ptr 1 0))],
      [.row 9 1 (strs (rfrees (ks.take x.i) [] b l)), .var [.d (.int .i8 k), .d (.str name), .d (.str arg), .d (.int .i64 num), .d (.int .i8 tk), .d (.sl 0 2 (Ty.rows tks)), .d (.int .i8 uk), .d (.sl 0 2 (Ty.rows uks)), .d (.int .i64 label), .d (.int .i64 place), .d (.sl 0 11 (Tm.rows ks))]], []⟩)
    (fun x => ks.length - x.i) ⟨0, Nat.zero_le _⟩ 2 (fun _ => rfl) (Nat.le_of_ble_eq_true rfl) ⟨⟨rfl, rfl, rfl, rfl, trivial⟩, rfl, rfl, ⟨[], rfl⟩, rfl⟩ (fun x => ?_)
  obtain ⟨i, hi⟩ := x
  repeat' first | refine AW.seq ?_ | refine AW.block ?_ | (refine (_root_.id : AW _ _ _ (.region 7 _ true) _ _ → _) ?_; refine AW.draw (id := 7) tab_ok mixed [0, 1, 2, 3, 4, 5, 6, 8, 7, 9, 10] (by kernel_rfl) ?_; conv => whnf) | (refine (_root_.id : AW _ _ _ (.region 9 _ true) _ _ → _) ?_; refine AW.draw (id := 9) tab_ok mixed [0, 1, 2, 3, 4, 5, 6, 8, 9, 11, 7, 10, 12, 13] (by kernel_rfl) ?_; conv => whnf) | (refine (_root_.id : AW _ _ _ (.region 12 _ true) _ _ → _) ?_; refine AW.draw (id := 12) tab_ok mixed [0, 1, 2, 3, 4, 5, 6, 8, 7, 9, 10] (by kernel_rfl) ?_; conv => whnf) | (refine (_root_.id : AW _ _ _ (.region 15 _ true) _ _ → _) ?_; refine AW.draw (id := 15) tab_ok mixed [0, 1, 2, 3, 4, 5, 6, 8, 7, 9, 10] (by kernel_rfl) ?_; conv => whnf) | (refine (_root_.id : AW _ _ _ (.region 16 _ true) _ _ → _) ?_; refine AW.draw (id := 16) tab_ok mixed [0, 1, 2, 3, 4, 5, 6, 8, 7, 9, 10] (by kernel_rfl) ?_; conv => whnf) | ((first | refine AW.region tab_ok ?_ | refine AW.cond ?_ | refine AW.skip ?_ | refine AW.ret ?_ | refine AW.exit ?_); conv => whnf) | ((first | refine And.intro (@rfl Val _) ?_ | refine And.intro (by decide) ?_ | refine cs (fun _ => ?_) (fun _ => ?_)) <;> conv => whnf)
  · rename_i h1
    simp only [trows_length] at h1 ⊢
    have := of_decide_eq_true h1
    refine ⟨by omega, fun row hrow => ?_⟩
    obtain ⟨t, ht, rfl⟩ := trows_get ks i row (by simpa using hrow)
    have hlt : i < ks.length := (List.getElem?_eq_some_iff.1 ht).1
    have e1 := tmNL_take ks i t ht
    have e2 := tmNL_take_le ks (i + 1)
    have e3 := rfrees_len (ks.take i) [] b l
    have ia := ih' t (List.mem_of_getElem? ht) b (rfrees (ks.take i) [] b l) (by omega) (by omega)
    have hs := rfrees_take ks i _ b l ht
    obtain ⟨kx, namex, argx, numx, tkx, tksx, ukx, uksx, labelx, placex, ksx⟩ := t
    conv => whnf
    repeat' first | refine AW.seq ?_ | refine AW.block ?_ | (refine (_root_.id : AW _ _ _ (.region 7 _ true) _ _ → _) ?_; refine AW.draw (id := 7) tab_ok mixed [0, 1, 2, 3, 4, 5, 6, 8, 7, 9, 10] (by kernel_rfl) ?_; conv => whnf) | (refine (_root_.id : AW _ _ _ (.region 9 _ true) _ _ → _) ?_; refine AW.draw (id := 9) tab_ok mixed [0, 1, 2, 3, 4, 5, 6, 8, 9, 11, 7, 10, 12, 13] (by kernel_rfl) ?_; conv => whnf) | (refine (_root_.id : AW _ _ _ (.region 12 _ true) _ _ → _) ?_; refine AW.draw (id := 12) tab_ok mixed [0, 1, 2, 3, 4, 5, 6, 8, 7, 9, 10] (by kernel_rfl) ?_; conv => whnf) | (refine (_root_.id : AW _ _ _ (.region 15 _ true) _ _ → _) ?_; refine AW.draw (id := 15) tab_ok mixed [0, 1, 2, 3, 4, 5, 6, 8, 7, 9, 10] (by kernel_rfl) ?_; conv => whnf) | (refine (_root_.id : AW _ _ _ (.region 16 _ true) _ _ → _) ?_; refine AW.draw (id := 16) tab_ok mixed [0, 1, 2, 3, 4, 5, 6, 8, 7, 9, 10] (by kernel_rfl) ?_; conv => whnf) | ((first | refine AW.region tab_ok ?_ | refine AW.cond ?_ | refine AW.skip ?_ | refine AW.ret ?_ | refine AW.exit ?_); conv => whnf) | (refine (ia).mono ?_; rintro _ _ ⟨rfl, rfl⟩; conv => whnf) | ((first | refine And.intro (@rfl Val _) ?_ | refine And.intro (by decide) ?_ | refine cs (fun _ => ?_) (fun _ => ?_)) <;> conv => whnf)
    rw [wrap64 (x := (i : Int) + 1) (by omega) (by omega)]
    refine ⟨⟨i + 1, hlt⟩, ⟨⟨rfl, rfl, ?_, rfl, trivial⟩, rfl, rfl, ⟨[], ?_⟩, rfl⟩, show ks.length - (i + 1) < ks.length - i by omega⟩
    · simp only [hs]; rfl
    · simp only [hs]; rfl
  · rename_i h1
    simp only [trows_length] at h1
    have := of_decide_eq_false h1
    obtain rfl : i = ks.length := by omega
    simp only [List.take_length]
    exact ⟨rfl, rfl⟩
end Go.Proofs.YthmbncehoblgpaaGreatDoor.E
