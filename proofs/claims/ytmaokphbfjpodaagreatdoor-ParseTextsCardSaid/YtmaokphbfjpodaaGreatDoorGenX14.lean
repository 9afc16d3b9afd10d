/- Texts, merged: Pm2, Pp9, As, As2, Kw4. No conditions. -/
import Derived.Test.YtmaokphbfjpodaaGreatDoorGenX12
import Derived.Test.YtmaokphbfjpodaaGreatDoorGenX8
import Derived.Test.YtmaokphbfjpodaaGreatDoorGenX13
import Derived.Test.YtmaokphbfjpodaaGreatDoorTab
import Derived.WalkKit
import Derived.LaidEql
import Derived.Stop.Asserts
import Derived.RowKitTokens
import Derived.Test.YtmaokphbfjpodaaGreatDoorEngX3
import Derived.Below
import Derived.OneCell
import Derived.Test.YtmaokphbfjpodaaGreatDoorGenX4
/- The reader stops at the last word, in plain Lean. No conditions. -/
set_option linter.unusedVariables false
set_option linter.unusedSimpArgs false
set_option linter.unusedSectionVars false
namespace Go.Proofs.YtmaokphbfjpodaaGreatDoor.E
open Go

def Bd {α : Type} (K : Nat) (p : PR α) : Prop := ∀ x j, p = .ok x j → j ≤ K
def EndW (l : List Wd) (K : Nat) : Prop := ∃ w, l[K]? = some w ∧ w.kind = 0
theorem bd_bad {α : Type} {K : Nat} {e a : Int} {w : ByteArray} : Bd K (.bad e a w : PR α) := fun x j h => by cases h
theorem bd_wbad {α : Type} {K : Nat} {l : List Wd} {i : Nat} : Bd K (wbad l i : PR α) := bd_bad
theorem bd_ok {α : Type} {K : Nat} {x : α} {j : Nat} (h : j ≤ K) : Bd K (.ok x j : PR α) := fun x j h => by cases h; assumption
theorem bd_bind {α β : Type} {K : Nat} {p : PR α} {f : α → Nat → PR β} (h : Bd K p) (hf : ∀ x j, j ≤ K → Bd K (f x j)) : Bd K (bindP p f) := by
  cases p with
  | ok x j => exact hf x j (h x j rfl)
  | bad e a w => exact bd_bad
theorem bd_ite {α : Type} {K : Nat} {P : Prop} [Decidable P] {a b : PR α} (ha : Bd K a) (hb : Bd K b) : Bd K (if P then a else b) := by
  split
  · exact ha
  · exact hb
theorem tk_lt {l : List Wd} {K i : Nat} {k : Int} {s : ByteArray} (hE : EndW l K) (hk : k ≠ 0) (hi : i ≤ K) (h : tkW l i k s = true) : i + 1 ≤ K := by
  rcases Nat.lt_or_ge i K with h1 | h1
  · exact h1
  · obtain rfl : i = K := by omega
    obtain ⟨w, hw, h0⟩ := hE
    unfold tkW at h
    rw [hw] at h
    simp only [Bool.and_eq_true, decide_eq_true_eq] at h
    exact absurd (h.1.symm.trans h0) hk
theorem bd_tk {α : Type} {l : List Wd} {K i : Nat} {k : Int} {s : ByteArray} {a b : PR α} (hE : EndW l K) (hk : k ≠ 0) (hi : i ≤ K) (ha : i + 1 ≤ K → Bd K a) (hb : Bd K b) : Bd K (if tkW l i k s = true then a else b) := by
  split
  · rename_i h; exact ha (tk_lt hE hk hi h)
  · exact hb
theorem bd_op {α : Type} {l : List Wd} {K i : Nat} {ops : List ByteArray} {a b : PR α} (hE : EndW l K) (hi : i ≤ K) (ha : i + 1 ≤ K → Bd K a) (hb : Bd K b) : Bd K (if isOp l ops i = true then a else b) := by
  split
  · rename_i h
    simp only [isOp, List.any_eq_true] at h
    obtain ⟨s, _, h⟩ := h
    exact ha (tk_lt hE (by decide) hi h)
  · exact hb
section
variable {l : List Wd} {K : Nat} (hE : EndW l K)
include hE
theorem tLoop_bd {part : Nat → PR Ty} (hp : ∀ i, i ≤ K → Bd K (part i)) (k : Int) (s : ByteArray) : ∀ (n : Nat) (a : Ty) (i : Nat), i ≤ K → Bd K (tLoop l part k s n a i)
  | 0, a, i, hi => bd_ok hi
  | n + 1, a, i, hi => by
    have ih := fun a i hi => tLoop_bd hp k s n a i hi
    unfold tLoop
    repeat' first | with_reducible exact bd_bad | (with_reducible refine bd_ok ?_; omega) | (with_reducible refine bd_wbad) | (with_reducible refine bd_tk hE (by decide) (by omega) (fun hi => ?_) ?_) | (with_reducible refine bd_bind ?_ (fun x j hj => ?_)) | (with_reducible refine bd_op hE (by omega) (fun hi => ?_) ?_) | (with_reducible refine hp _ ?_; omega) | (with_reducible refine ih _ _ ?_; omega) | (with_reducible refine bd_ite ?_ ?_)
theorem tAtom_bd {W : Nat → PR Ty} (hW : ∀ i, i ≤ K → Bd K (W i)) (i : Nat) (hi : i ≤ K) : Bd K (tAtom l W i) := by
  unfold tAtom
  repeat' first | with_reducible exact bd_bad | (with_reducible refine bd_ok ?_; omega) | (with_reducible refine bd_wbad) | (with_reducible refine bd_tk hE (by decide) (by omega) (fun hi => ?_) ?_) | (with_reducible refine bd_bind ?_ (fun x j hj => ?_)) | (with_reducible refine bd_op hE (by omega) (fun hi => ?_) ?_) | (with_reducible refine hW _ ?_; omega) | (with_reducible refine bd_ite ?_ ?_)
theorem tLeft_bd {part : Nat → PR Ty} (hp : ∀ i, i ≤ K → Bd K (part i)) (k : Int) (s : ByteArray) (i : Nat) (hi : i ≤ K) : Bd K (tLeft l part k s i) := by
  unfold tLeft
  exact bd_bind (hp i hi) fun a j hj => tLoop_bd hE hp k s _ a j hj
theorem tWhole_bd : ∀ (n i : Nat), i ≤ K → Bd K (tWhole l n i)
  | 0, i, hi => bd_wbad
  | n + 1, i, hi => by
    have ih := tWhole_bd n
    have hs : ∀ i, i ≤ K → Bd K (tSum l (tWhole l n) i) := fun i hi => tLeft_bd hE (fun i hi => tLeft_bd hE (fun i hi => tAtom_bd hE ih i hi) _ _ i hi) _ _ i hi
    unfold tWhole
    repeat' first | with_reducible exact bd_bad | (with_reducible refine bd_ok ?_; omega) | (with_reducible refine bd_wbad) | (with_reducible refine bd_tk hE (by decide) (by omega) (fun hi => ?_) ?_) | (with_reducible refine bd_bind ?_ (fun x j hj => ?_)) | (with_reducible refine bd_op hE (by omega) (fun hi => ?_) ?_) | (with_reducible refine hs _ ?_; omega) | (with_reducible refine ih _ ?_; omega) | (with_reducible refine bd_ite ?_ ?_)
theorem typP_bd (i : Nat) (hi : i ≤ K) : Bd K (typP l i) := by
  have hw := fun i hi => tWhole_bd hE (l.length + 1) i hi
  unfold typP
  repeat' first | with_reducible exact bd_bad | (with_reducible refine bd_ok ?_; omega) | (with_reducible refine bd_wbad) | (with_reducible refine bd_tk hE (by decide) (by omega) (fun hi => ?_) ?_) | (with_reducible refine bd_bind ?_ (fun x j hj => ?_)) | (with_reducible refine bd_op hE (by omega) (fun hi => ?_) ?_) | (with_reducible refine hw _ ?_; omega) | (with_reducible refine bd_ite ?_ ?_)
theorem mustP_bd (k : Int) (hk : k ≠ 0) (s : ByteArray) (i : Nat) (hi : i ≤ K) : Bd K (mustP l k s i) := by
  unfold mustP
  exact bd_tk hE hk hi (fun h => bd_ok h) bd_wbad
theorem nameP_bd (i : Nat) (hi : i ≤ K) : Bd K (nameP l i) := by
  unfold nameP
  rcases Nat.lt_or_ge i K with h1 | h1
  · split
    · exact bd_ite (bd_ok h1) bd_wbad
    · exact bd_wbad
  · obtain rfl : i = K := by omega
    obtain ⟨w, hw, h0⟩ := hE
    rw [hw]
    simp only
    rw [if_neg (by omega)]
    exact bd_wbad
theorem numP_bd (p : Int) (i : Nat) (hi : i ≤ K) : Bd K (numP l p i) := by
  unfold numP
  rcases Nat.lt_or_ge i K with h1 | h1
  · split
    · exact bd_ite (bd_ok h1) bd_wbad
    · exact bd_wbad
  · obtain rfl : i = K := by omega
    obtain ⟨w, hw, h0⟩ := hE
    rw [hw]
    simp only
    rw [if_neg (by omega)]
    exact bd_wbad
theorem must4_bd (s : ByteArray) (i : Nat) (hi : i ≤ K) : Bd K (mustP l 4 s i) := mustP_bd hE 4 (by decide) s i hi
theorem must3_bd (s : ByteArray) (i : Nat) (hi : i ≤ K) : Bd K (mustP l 3 s i) := mustP_bd hE 3 (by decide) s i hi
theorem annP_bd (i : Nat) (hi : i ≤ K) : Bd K (annP l i) := by
  unfold annP
  repeat' first | with_reducible exact bd_bad | (with_reducible refine bd_ok ?_; omega) | (with_reducible refine bd_wbad) | (with_reducible refine bd_tk hE (by decide) (by omega) (fun hi => ?_) ?_) | (with_reducible refine bd_bind ?_ (fun x j hj => ?_)) | (with_reducible refine bd_op hE (by omega) (fun hi => ?_) ?_) | (with_reducible refine must4_bd hE _ _ ?_; omega) | (with_reducible refine must3_bd hE _ _ ?_; omega) | (with_reducible refine nameP_bd hE _ ?_; omega) | (with_reducible refine typP_bd hE _ ?_; omega) | (with_reducible refine numP_bd hE _ _ ?_; omega) | (with_reducible refine bd_ite ?_ ?_)
theorem isLoop_bd : ∀ (n : Nat) (t : Tm) (i : Nat), i ≤ K → Bd K (isLoop l n t i)
  | 0, t, i, hi => bd_ok hi
  | n + 1, t, i, hi => by
    have ih := isLoop_bd n
    unfold isLoop
    repeat' first | with_reducible exact bd_bad | (with_reducible refine bd_ok ?_; omega) | (with_reducible refine bd_wbad) | (with_reducible refine bd_tk hE (by decide) (by omega) (fun hi => ?_) ?_) | (with_reducible refine bd_bind ?_ (fun x j hj => ?_)) | (with_reducible refine bd_op hE (by omega) (fun hi => ?_) ?_) | (with_reducible refine ih _ _ ?_; omega) | (with_reducible refine must4_bd hE _ _ ?_; omega) | (with_reducible refine must3_bd hE _ _ ?_; omega) | (with_reducible refine nameP_bd hE _ ?_; omega) | (with_reducible refine typP_bd hE _ ?_; omega) | (with_reducible refine numP_bd hE _ _ ?_; omega) | (with_reducible refine bd_ite ?_ ?_)
theorem opP_bd {part : Nat → PR Tm} (hp : ∀ i, i ≤ K → Bd K (part i)) (t : Tm) (i : Nat) (hi : i + 1 ≤ K) : Bd K (opP l part t i) := by
  unfold opP
  exact bd_bind (hp _ hi) fun u j hj => bd_ok hj
theorem opLoop_bd {part : Nat → PR Tm} (hp : ∀ i, i ≤ K → Bd K (part i)) (ops : List ByteArray) : ∀ (n : Nat) (t : Tm) (i : Nat), i ≤ K → Bd K (opLoop l part ops n t i)
  | 0, t, i, hi => bd_ok hi
  | n + 1, t, i, hi => by
    have ih := opLoop_bd hp ops n
    unfold opLoop
    exact bd_op hE hi (fun h => bd_bind (opP_bd hE hp t i h) fun u j hj => ih u j hj) (bd_ok hi)
theorem pAtom_bd {W : Nat → PR Tm} (hW : ∀ i, i ≤ K → Bd K (W i)) (i : Nat) (hi : i ≤ K) : Bd K (pAtom l W i) := by
  unfold pAtom
  split
  · exact bd_wbad
  · rename_i w hw
    have hk : w.kind ≠ 0 → i + 1 ≤ K := fun h => by
      rcases Nat.lt_or_ge i K with h1 | h1
      · exact h1
      · obtain rfl : i = K := by omega
        obtain ⟨w', hw', h0⟩ := hE
        rw [hw] at hw'; cases hw'
        exact absurd h0 h
    by_cases h2 : w.kind = 2
    · rw [if_pos h2]; exact bd_ok (hk (by omega))
    · rw [if_neg h2]
      by_cases h1 : w.kind = 1
      · rw [if_pos h1]; exact bd_ok (hk (by omega))
      · rw [if_neg h1]
        repeat' first | with_reducible exact bd_bad | (with_reducible refine bd_ok ?_; omega) | (with_reducible refine bd_wbad) | (with_reducible refine bd_tk hE (by decide) (by omega) (fun hi => ?_) ?_) | (with_reducible refine bd_bind ?_ (fun x j hj => ?_)) | (with_reducible refine bd_op hE (by omega) (fun hi => ?_) ?_) | (with_reducible refine hW _ ?_; omega) | (with_reducible refine must4_bd hE _ _ ?_; omega) | (with_reducible refine must3_bd hE _ _ ?_; omega) | (with_reducible refine nameP_bd hE _ ?_; omega) | (with_reducible refine typP_bd hE _ ?_; omega) | (with_reducible refine numP_bd hE _ _ ?_; omega) | (with_reducible refine bd_ite ?_ ?_)
theorem appLoop_bd {W : Nat → PR Tm} (hW : ∀ i, i ≤ K → Bd K (W i)) : ∀ (n : Nat) (t : Tm) (i : Nat), i ≤ K → Bd K (appLoop l W n t i)
  | 0, t, i, hi => bd_ok hi
  | n + 1, t, i, hi => by
    have ih := appLoop_bd hW n
    unfold appLoop
    repeat' first | with_reducible exact bd_bad | (with_reducible refine bd_ok ?_; omega) | (with_reducible refine bd_wbad) | (with_reducible refine bd_tk hE (by decide) (by omega) (fun hi => ?_) ?_) | (with_reducible refine bd_bind ?_ (fun x j hj => ?_)) | (with_reducible refine bd_op hE (by omega) (fun hi => ?_) ?_) | (with_reducible refine hW _ ?_; omega) | (with_reducible refine ih _ _ ?_; omega) | (with_reducible refine must4_bd hE _ _ ?_; omega) | (with_reducible refine must3_bd hE _ _ ?_; omega) | (with_reducible refine nameP_bd hE _ ?_; omega) | (with_reducible refine typP_bd hE _ ?_; omega) | (with_reducible refine numP_bd hE _ _ ?_; omega) | (with_reducible refine bd_ite ?_ ?_)
theorem inP_bd {un : Nat → PR Tm} (hu : ∀ i, i ≤ K → Bd K (un i)) (k p : Int) (i : Nat) (hi : i ≤ K) : Bd K (inP l un k p i) := by
  unfold inP
  repeat' first | with_reducible exact bd_bad | (with_reducible refine bd_ok ?_; omega) | (with_reducible refine bd_wbad) | (with_reducible refine bd_tk hE (by decide) (by omega) (fun hi => ?_) ?_) | (with_reducible refine bd_bind ?_ (fun x j hj => ?_)) | (with_reducible refine bd_op hE (by omega) (fun hi => ?_) ?_) | (with_reducible refine hu _ ?_; omega) | (with_reducible refine must4_bd hE _ _ ?_; omega) | (with_reducible refine must3_bd hE _ _ ?_; omega) | (with_reducible refine nameP_bd hE _ ?_; omega) | (with_reducible refine typP_bd hE _ ?_; omega) | (with_reducible refine numP_bd hE _ _ ?_; omega) | (with_reducible refine bd_ite ?_ ?_)
theorem pUn_bd {W : Nat → PR Tm} (hW : ∀ i, i ≤ K → Bd K (W i)) : ∀ (m i : Nat), i ≤ K → Bd K (pUn l W m i)
  | 0, i, hi => bd_wbad
  | m + 1, i, hi => by
    have ih := pUn_bd hW m
    have ha := pAtom_bd hE hW
    have hl := appLoop_bd hE hW
    have hin := inP_bd hE ih
    unfold pUn
    repeat' first | with_reducible exact bd_bad | (with_reducible refine bd_ok ?_; omega) | (with_reducible refine bd_wbad) | (with_reducible refine bd_tk hE (by decide) (by omega) (fun hi => ?_) ?_) | (with_reducible refine bd_bind ?_ (fun x j hj => ?_)) | (with_reducible refine bd_op hE (by omega) (fun hi => ?_) ?_) | (with_reducible refine ih _ ?_; omega) | (with_reducible refine ha _ ?_; omega) | (with_reducible refine hl _ _ _ ?_; omega) | (with_reducible refine hin _ _ _ ?_; omega) | (with_reducible refine must4_bd hE _ _ ?_; omega) | (with_reducible refine must3_bd hE _ _ ?_; omega) | (with_reducible refine nameP_bd hE _ ?_; omega) | (with_reducible refine typP_bd hE _ ?_; omega) | (with_reducible refine numP_bd hE _ _ ?_; omega) | (with_reducible refine bd_ite ?_ ?_)
theorem pIs_bd {W : Nat → PR Tm} (hW : ∀ i, i ≤ K → Bd K (W i)) (i : Nat) (hi : i ≤ K) : Bd K (pIs l W i) := by
  have hu : ∀ i, i ≤ K → Bd K (pU l W i) := fun i hi => pUn_bd hE hW _ i hi
  have hm : ∀ i, i ≤ K → Bd K (pMul l W i) := fun i hi => bd_bind (hu i hi) fun t j hj => opLoop_bd hE hu _ _ t j hj
  have hs : ∀ i, i ≤ K → Bd K (pSum l W i) := fun i hi => bd_bind (hm i hi) fun t j hj => opLoop_bd hE hm _ _ t j hj
  have hc : ∀ i, i ≤ K → Bd K (pCmp l W i) := fun i hi => bd_bind (hs i hi) fun t j hj => bd_op hE hj (fun h => opP_bd hE hs t j h) (bd_ok hj)
  exact bd_bind (hc i hi) fun t j hj => isLoop_bd hE _ t j hj
theorem branchP_bd {W : Nat → PR Tm} (hW : ∀ i, i ≤ K → Bd K (W i)) (i : Nat) (hi : i ≤ K) : Bd K (branchP l W i) := by
  unfold branchP
  repeat' first | with_reducible exact bd_bad | (with_reducible refine bd_ok ?_; omega) | (with_reducible refine bd_wbad) | (with_reducible refine bd_tk hE (by decide) (by omega) (fun hi => ?_) ?_) | (with_reducible refine bd_bind ?_ (fun x j hj => ?_)) | (with_reducible refine bd_op hE (by omega) (fun hi => ?_) ?_) | (with_reducible refine hW _ ?_; omega) | (with_reducible refine must4_bd hE _ _ ?_; omega) | (with_reducible refine must3_bd hE _ _ ?_; omega) | (with_reducible refine nameP_bd hE _ ?_; omega) | (with_reducible refine typP_bd hE _ ?_; omega) | (with_reducible refine numP_bd hE _ _ ?_; omega) | (with_reducible refine bd_ite ?_ ?_)
theorem pStep_bd {W : Nat → PR Tm} (hW : ∀ i, i ≤ K → Bd K (W i)) (i : Nat) (hi : i ≤ K) : Bd K (pStep l W i) := by
  unfold pStep lamP letP ifP recP caseP
  repeat' first | with_reducible exact bd_bad | (with_reducible refine bd_ok ?_; omega) | (with_reducible refine bd_wbad) | (with_reducible refine bd_tk hE (by decide) (by omega) (fun hi => ?_) ?_) | (with_reducible refine bd_bind ?_ (fun x j hj => ?_)) | (with_reducible refine bd_op hE (by omega) (fun hi => ?_) ?_) | (with_reducible refine hW _ ?_; omega) | (with_reducible refine must4_bd hE _ _ ?_; omega) | (with_reducible refine must3_bd hE _ _ ?_; omega) | (with_reducible refine nameP_bd hE _ ?_; omega) | (with_reducible refine typP_bd hE _ ?_; omega) | (with_reducible refine numP_bd hE _ _ ?_; omega) | (with_reducible refine annP_bd hE _ ?_; omega) | (with_reducible refine branchP_bd hE hW _ ?_; omega) | (with_reducible refine pIs_bd hE hW _ ?_; omega) | (with_reducible refine bd_ite ?_ ?_)
theorem pTerm_bd : ∀ (n i : Nat), i ≤ K → Bd K (pTerm l n i)
  | 0, i, hi => bd_wbad
  | n + 1, i, hi => pStep_bd hE (pTerm_bd n) i hi
theorem wordsP_bd : Bd K (wordsP l) := by
  have h := pTerm_bd hE (l.length + 1) 0 (Nat.zero_le _)
  unfold wordsP
  exact bd_bind h fun t j hj => bd_ite bd_bad (bd_ite bd_bad (bd_ok hj))
end
theorem scanL_len : ∀ (n p : Nat) (s : List UInt8) (l : List Wd), scanL n p s = .ok l → l.length ≤ s.length
  | 0, p, s, l, h => by cases h; simp
  | n + 1, p, s, l, h => by
    have ih := scanL_len n
    rw [scanL_skip] at h
    have hk := skipL_le false s
    generalize hq : s.drop (skipL false s) = r at h
    have hr : r.length ≤ s.length := by rw [← hq]; simp
    by_cases hn : r = []
    · subst hn; rw [scanL_nil] at h; cases h; simp
    · rw [scanL_step n _ r (by rw [← hq]; exact skipL_again s false) hn] at h
      split at h
      · cases h
      · rename_i w hw
        obtain ⟨w1, w2, w3⟩ := wordL_ok hw
        split at h
        · cases h
        · rename_i l' hl
          cases h
          have := ih _ _ _ hl
          simp only [List.length_drop] at this
          simp only [List.length_cons]
          omega
theorem scanF_ok {s : ByteArray} {l : List Wd} (h : scanF s = .ok l) : s.size ≤ 65536 ∧ ∃ ws, l = ws ++ [⟨0, s0, 0, s.size⟩] ∧ ws.length ≤ s.size ∧ scanL (s.size + 1) 0 s.data.toList = .ok ws := by
  unfold scanF at h
  split at h
  · cases h
  · rename_i hs
    split at h
    · cases h
    · rename_i ws hws
      cases h
      exact ⟨by omega, ws, rfl, scanL_len _ _ _ _ hws, hws⟩
end Go.Proofs.YtmaokphbfjpodaaGreatDoor.E

/- Walks: parse.Term. No conditions. -/
set_option linter.unusedVariables false
set_option linter.unusedSimpArgs false
namespace Go.Proofs.YtmaokphbfjpodaaGreatDoor.E
open Go
def oTPp9_8_9 : OT := (.op 0 (.op 1 (.op 2 (.op 3 (.op 4 (.op 5 (.alt (.op 6 (.alt (.op 7 (.op 8 (.op 9 .nil))) (.op 8 (.op 7 (.op 9 .nil))))) (.op 8 (.op 6 (.op 7 (.op 9 .nil)))))))))))

/-- What parse.Term tells. -/
def termO (s : ByteArray) : Out := match readF s with
  | .error (e, a, w) => .ret (.tup [tmZ.val, .c (.d (faultI e a w))])
  | .ok t => .ret (.tup [t.val, .c (.d .nili)])
set_option maxRecDepth 10000 in
set_option maxHeartbeats 2000000 in
theorem parseTerm_call (s : ByteArray) : ACall Tryz.prog 8 [.c (.d (.str s))] [] (fun o σ => o = termO s ∧ σ = []) := by
  have A := all_call s
  unfold termO
  cases hs : scanF s with
  | error x =>
    obtain ⟨e, a, w⟩ := x
    have hR : readF s = .error (e, a, w) := by unfold readF; rw [hs]
    rw [hR]
    have A : ACall Tryz.prog 18 [.c (.d (.str s))] [] (fun o σ => o = .ret (.tup [.c (.d (.sl 0 4 [])), .c (.d (faultI e a w))]) ∧ σ = []) := A.mono fun o σ h => by unfold allR at h; rw [hs] at h; exact h
    refine ACall.body tab_ok (ρ := 0) (N := 44) Tryz.func8 rfl rfl rfl rfl rfl ?_
    repeat' first | refine AW.seq ?_ | refine AW.block ?_ | (refine (_root_.id : AW _ _ _ (.region 9 _ true) _ _ → _) ?_; refine AW.drawT (id := 9) tab_ok mixed [0, 1, 2, 3, 4, 5, 6, 7, 8, 9] oTPp9_8_9 (by kernel_rfl) ?_; conv => whnf) | (refine Fork.mk ?_ ?_ <;> conv => whnf) | ((first | refine AW.region tab_ok ?_ | refine AW.cond ?_ | refine AW.skip ?_ | refine AW.ret ?_ | refine AW.exit ?_); conv => whnf) | (refine (A).mono ?_; rintro _ _ ⟨rfl, rfl⟩; conv => whnf) | ((first | refine And.intro (@rfl Val _) ?_ | refine And.intro (by decide) ?_ | refine cs (fun _ => ?_) (fun _ => ?_)) <;> conv => whnf)
    all_goals first | exact ⟨rfl, rfl⟩
  | ok l =>
    have A : ACall Tryz.prog 18 [.c (.d (.str s))] [] (fun o σ => o = .ret (.tup [.c (.d (.sl 0 4 (wrows l))), .c (.d .nili)]) ∧ σ = []) := A.mono fun o σ h => by unfold allR at h; rw [hs] at h; exact h
    obtain ⟨hz, ws, hl, hlen, _⟩ := scanF_ok hs
    have hE : EndW l ws.length := ⟨⟨0, s0, 0, s.size⟩, by rw [hl]; simp, rfl⟩
    have hll : l.length = ws.length + 1 := by rw [hl]; simp
    have W := words_call l (by omega)
    have hB := wordsP_bd hE
    unfold wordsR at W
    cases hw : wordsP l with
    | bad e a w =>
      have W : ACall Tryz.prog 19 [.c (.d (.sl 0 4 (wrows l))), .c (.d (.int .i64 0))] [] (fun o σ => o = .ret (.tup [tmZ.val, .c (.d (.int .i64 0)), .c (.d (faultI e a w))]) ∧ σ = []) := W.mono fun o σ h => by
        rw [hw] at h
        rcases h with ⟨t, j, h, _⟩ | ⟨e', x', w', h, h2⟩
        · cases h
        · cases h; exact h2
      have hR : readF s = .error (e, a, w) := by unfold readF; rw [hs]; simp only; rw [hw]
      rw [hR]
      refine ACall.body tab_ok (ρ := 0) (N := 44) Tryz.func8 rfl rfl rfl rfl rfl ?_
      repeat' first | refine AW.seq ?_ | refine AW.block ?_ | (refine (_root_.id : AW _ _ _ (.region 9 _ true) _ _ → _) ?_; refine AW.drawT (id := 9) tab_ok mixed [0, 1, 2, 3, 4, 5, 6, 7, 8, 9] oTPp9_8_9 (by kernel_rfl) ?_; conv => whnf) | (refine Fork.mk ?_ ?_ <;> conv => whnf) | ((first | refine AW.region tab_ok ?_ | refine AW.cond ?_ | refine AW.skip ?_ | refine AW.ret ?_ | refine AW.exit ?_); conv => whnf) | ((first | refine (A).mono ?_ | refine (W).mono ?_); rintro _ _ ⟨rfl, rfl⟩; conv => whnf) | ((first | refine And.intro (@rfl Val _) ?_ | refine And.intro (by decide) ?_ | refine cs (fun _ => ?_) (fun _ => ?_)) <;> conv => whnf)
      all_goals first | exact ⟨rfl, rfl⟩
    | ok t j =>
      have W : ACall Tryz.prog 19 [.c (.d (.sl 0 4 (wrows l))), .c (.d (.int .i64 0))] [] (fun o σ => o = .ret (.tup [t.val, .c (.d (.int .i64 j)), .c (.d .nili)]) ∧ σ = []) := W.mono fun o σ h => by
        rw [hw] at h
        rcases h with ⟨t', j', h, _, _, h2⟩ | ⟨e', x', w', h, h2⟩
        · cases h; exact h2
        · cases h
      have hj := hB t j hw
      obtain ⟨w, hwj⟩ : ∃ w, l[j]? = some w := ⟨_, List.getElem?_eq_getElem (by omega)⟩
      have hrow : (wrows l)[j]? = some w.cells := by simp [wrows, hwj]
      obtain ⟨k, nm, ag, nu, tk, tks, uk, uks, lb, pl, ks⟩ := t
      obtain ⟨wk, wt, wn, wp⟩ := w
      have hR : readF s = if wk = 0 then .ok (.node k nm ag nu tk tks uk uks lb pl ks) else .error (40, wp, wt) := by unfold readF; rw [hs]; simp only; rw [hw]; simp only; rw [hwj]
      rw [hR]
      refine ACall.body tab_ok (ρ := 0) (N := 44) Tryz.func8 rfl rfl rfl rfl rfl ?_
      repeat' first | refine AW.seq ?_ | refine AW.block ?_ | (refine (_root_.id : AW _ _ _ (.region 9 _ true) _ _ → _) ?_; refine AW.drawT (id := 9) tab_ok mixed [0, 1, 2, 3, 4, 5, 6, 7, 8, 9] oTPp9_8_9 (by kernel_rfl) ?_; conv => whnf) | (refine Fork.mk ?_ ?_ <;> conv => whnf) | ((first | refine AW.region tab_ok ?_ | refine AW.cond ?_ | refine AW.skip ?_ | refine AW.ret ?_ | refine AW.exit ?_); conv => whnf) | ((first | refine (A).mono ?_ | refine (W).mono ?_); rintro _ _ ⟨rfl, rfl⟩; conv => whnf) | ((first | refine And.intro (@rfl Val _) ?_ | refine And.intro (by decide) ?_ | refine cs (fun _ => ?_) (fun _ => ?_)) <;> conv => whnf)
      refine ⟨⟨by omega, by rw [wrows_len]; omega⟩, fun row hr => ?_⟩
      obtain rfl := Option.some.inj (hrow.symm.trans (by simpa using hr))
      conv => whnf
      repeat' first | refine AW.seq ?_ | refine AW.block ?_ | (refine (_root_.id : AW _ _ _ (.region 9 _ true) _ _ → _) ?_; refine AW.drawT (id := 9) tab_ok mixed [0, 1, 2, 3, 4, 5, 6, 7, 8, 9] oTPp9_8_9 (by kernel_rfl) ?_; conv => whnf) | (refine Fork.mk ?_ ?_ <;> conv => whnf) | ((first | refine AW.region tab_ok ?_ | refine AW.cond ?_ | refine AW.skip ?_ | refine AW.ret ?_ | refine AW.exit ?_); conv => whnf) | ((first | refine (A).mono ?_ | refine (W).mono ?_); rintro _ _ ⟨rfl, rfl⟩; conv => whnf) | ((first | refine And.intro (@rfl Val _) ?_ | refine And.intro (by decide) ?_ | refine cs (fun _ => ?_) (fun _ => ?_)) <;> conv => whnf)
      all_goals
        rename_i hk
        first
          | (have hk : ¬ wk = 0 := by simpa using hk
             simp only [if_neg hk]
             exact ⟨rfl, rfl⟩)
          | (have hk : wk = 0 := by simpa using hk
             simp only [if_pos hk]
             exact ⟨rfl, rfl⟩)
         
end Go.Proofs.YtmaokphbfjpodaaGreatDoor.E

/- errors.As at a target of type **api.Fault, errors.Is at a number: Go's own texts walked. No conditions. -/
set_option linter.unusedVariables false
set_option linter.unusedSimpArgs false
namespace Go.Proofs.YtmaokphbfjpodaaGreatDoor.E
open Go Go.RowKit Go.Extern.Stop Go.Stop Go.Extern

/-! ### CLOSED FACTS ON THE MODEL's ENTRIES FOR internal/reflectlite, at this program's types: 25: *p.E · 27: **p.E · 23: error · 45: reflectlite's rtype · 1: how many package-level variables the dump has -/
theorem as_valueOf27 (t : Addr) (w : World) : (ReflectliteValue.unpack (.iface 66 (.pointer (some t)))).run Tryz.prog w
    = .ok (.agg #[.pointer (some ⟨5, 66, none⟩), .pointer (some ⟨w.heap.size, 0, none⟩), .int .u64 150]) (w.alloc (.cells #[.pointer (some t)] 66)) := by kernel_rfl
theorem as_type27 (a : Addr) (w : World) : (ReflectliteValue.methodAny (ReflectliteValue.valueError "reflectlite.Value.Type" 0) (fun t _ _ _ => ReflectliteType.toType t) #[.agg #[.pointer (some ⟨5, 66, none⟩), .pointer (some a), .int .u64 150]]).run Tryz.prog w
    = .ok (.iface 152 (.agg #[.pointer (some ⟨5, 66, none⟩)])) w := by kernel_rfl
theorem as_methodKind (h : Value) (w : World) : (Go.method 341 152 (.agg #[h]) "Kind").run Tryz.prog w = .ok (187, h) w := by kernel_rfl
theorem as_kind27 (w : World) : ((ReflectliteType.abiMethod fun t => (fun a : Nat => Value.int IntKind.u8 (a : Int)) <$> Rtype.kind t) #[.pointer (some ⟨5, 66, none⟩)]).run Tryz.prog w = .ok (.int .u8 22) w := by kernel_rfl
theorem as_kind25 (w : World) : ((ReflectliteType.abiMethod fun t => (fun a : Nat => Value.int IntKind.u8 (a : Int)) <$> Rtype.kind t) #[.pointer (some ⟨5, 58, none⟩)]).run Tryz.prog w = .ok (.int .u8 22) w := by kernel_rfl

/-! ### THE ENTRIES THAT READ OR WRITE MEMORY: laws with a premise on the cell (after Derived/Lib/ReflectliteSlice.lean's manner: each unfolding a lemma of its own, by rfl) -/
theorem rlm (z : Sem Value) (f : TypeId → Addr → Nat → Nat → Sem Value) (v : Value) :
    ReflectliteValue.method z f #[v] = (do match ← ReflectliteValue.parts v with | none => z | some (t, a, fl) => f t a fl (fl % 32)) := rfl
theorem as_parts27 (a : Addr) (w : World) : (ReflectliteValue.parts (.agg #[.pointer (some ⟨5, 66, none⟩), .pointer (some a), .int .u64 150])).run Tryz.prog w = .ok (some (66, a, 150)) w := by kernel_rfl
/-- (Value).IsNil at the Value of a **p.E that is not nil. -/
theorem as_isNil27 (a p : Addr) (W : World) (ha : W.cell? a = some (.pointer (some p))) :
    (ReflectliteValue.method (ReflectliteValue.valueError "reflectlite.Value.IsNil" 0) ReflectliteValue.isNil #[.agg #[.pointer (some ⟨5, 66, none⟩), .pointer (some a), .int .u64 150]]).run Tryz.prog W = .ok (.bool false) W := by
  rw [rlm]
  simp only [Sem.run_bind, as_parts27, Result.andThen]
  simp [ReflectliteValue.isNil, loadVar, isAgg, underlying, Tryz.underlying66, ha, Result.andThen]

theorem as_methodElem (h : Value) (w : World) : (Go.method 341 152 (.agg #[h]) "Elem").run Tryz.prog w = .ok (200, .agg #[h]) w := by kernel_rfl
theorem as_methodImplements (h : Value) (w : World) : (Go.method 341 152 (.agg #[h]) "Implements").run Tryz.prog w = .ok (201, .agg #[h]) w := by kernel_rfl
theorem as_methodAssignableTo (h : Value) (w : World) : (Go.method 341 152 (.agg #[h]) "AssignableTo").run Tryz.prog w = .ok (198, .agg #[h]) w := by kernel_rfl
theorem as_elem27 (w : World) : (ReflectliteType.method ReflectliteType.elem #[.agg #[.pointer (some ⟨5, 66, none⟩)]]).run Tryz.prog w = .ok (.iface 152 (.agg #[.pointer (some ⟨5, 58, none⟩)])) w := by kernel_rfl
theorem as_implements25 (w : World) : (ReflectliteType.relation "Implements" ReflectliteType.implements_ #[.agg #[.pointer (some ⟨5, 58, none⟩)], .iface 152 (.agg #[.pointer (some ⟨5, 31, none⟩)])]).run Tryz.prog w = .ok (.bool true) w := by kernel_rfl
theorem as_typeOf25 (v : Value) (w : World) : (ReflectliteType.typeOf #[.iface 58 v]).run Tryz.prog w = .ok (.iface 152 (.agg #[.pointer (some ⟨5, 58, none⟩)])) w := by kernel_rfl
theorem as_assignable25 (w : World) : (ReflectliteType.relation "AssignableTo" ReflectliteType.assignableTo #[.agg #[.pointer (some ⟨5, 58, none⟩)], .iface 152 (.agg #[.pointer (some ⟨5, 58, none⟩)])]).run Tryz.prog w = .ok (.bool true) w := by kernel_rfl
theorem as_valueOf25 (e : Addr) (w : World) : (ReflectliteValue.unpack (.iface 58 (.pointer (some e)))).run Tryz.prog w
    = .ok (.agg #[.pointer (some ⟨5, 58, none⟩), .pointer (some ⟨w.heap.size, 0, none⟩), .int .u64 150]) (w.alloc (.cells #[.pointer (some e)] 58)) := by kernel_rfl

theorem as_elemOf27 (w : World) : (Rtype.elem? 66).run Tryz.prog w = .ok (some 58) w := by kernel_rfl
theorem as_mk25 (p : Addr) (w : World) : (ReflectliteValue.mk 58 p ReflectliteValue.flagAddr).run Tryz.prog w = .ok (.agg #[.pointer (some ⟨5, 58, none⟩), .pointer (some p), .int .u64 406]) w := by kernel_rfl
/-- (Value).Elem at the Value of a **p.E that is not nil: the Value of the *p.E variable that it points to, addressable. -/
theorem as_elemV27 (a p : Addr) (W : World) (ha : W.cell? a = some (.pointer (some p))) :
    (ReflectliteValue.method (ReflectliteValue.valueError "reflectlite.Value.Elem" 0) ReflectliteValue.elem #[.agg #[.pointer (some ⟨5, 66, none⟩), .pointer (some a), .int .u64 150]]).run Tryz.prog W
      = .ok (.agg #[.pointer (some ⟨5, 58, none⟩), .pointer (some p), .int .u64 406]) W := by
  rw [rlm]
  simp only [Sem.run_bind, as_parts27, Result.andThen]
  simp [ReflectliteValue.elem, loadVar, isAgg, underlying, Tryz.underlying66, ha, Result.andThen, as_elemOf27, as_mk25]
theorem rls (v x : Value) : ReflectliteValue.set #[v, x] = (do
    let (some (dst, a, fl), some (src, b, _)) := (← ReflectliteValue.parts v, ← ReflectliteValue.parts x)
      | unsupported (.noEntry "extern/(internal/reflectlite.Value).Set.zeroValue")
    if fl / ReflectliteValue.flagAddr % 2 == 0 then unsupported (.noEntry "extern/(internal/reflectlite.Value).Set.unaddressable")
    let val ← loadVar src b
    if ← Rtype.directlyAssignable dst src then storeVar dst a val
    else if ← Rtype.implements dst src then
      if (← Rtype.kind src) == 20 then
        match val with
        | .nilIface => unsupported (.noEntry "extern/reflectlite: a nil value of one interface type handed on as a value of another")
        | _ => storeVar dst a val
      else storeVar dst a (.iface src val)
    else panicString ("reflectlite.Set: value of type " ++ (← Rtype.spelt src) ++ " is not assignable to type " ++ (← Rtype.spelt dst))
    pure (.tuple #[])) := rfl
theorem as_parts25a (a : Addr) (w : World) : (ReflectliteValue.parts (.agg #[.pointer (some ⟨5, 58, none⟩), .pointer (some a), .int .u64 406])).run Tryz.prog w = .ok (some (58, a, 406)) w := by kernel_rfl
theorem as_parts25 (a : Addr) (w : World) : (ReflectliteValue.parts (.agg #[.pointer (some ⟨5, 58, none⟩), .pointer (some a), .int .u64 150])).run Tryz.prog w = .ok (some (58, a, 150)) w := by kernel_rfl
theorem as_direct25 (w : World) : (Rtype.directlyAssignable 58 58).run Tryz.prog w = .ok true w := by kernel_rfl
/-- (Value).Set: the *p.E variable at 'ta' gets what the Value's own variable 'b' holds. -/
theorem as_set25 (ta b e : Addr) (old : Value) (W : World) (hb : W.cell? b = some (.pointer (some e))) (ht : W.cell? ta = some old) (hf : W.frozen? ta = false) :
    (ReflectliteValue.set #[.agg #[.pointer (some ⟨5, 58, none⟩), .pointer (some ta), .int .u64 406], .agg #[.pointer (some ⟨5, 58, none⟩), .pointer (some b), .int .u64 150]]).run Tryz.prog W
      = .ok (.tuple #[]) (W.setCell ta (.pointer (some e))) := by
  rw [rls]
  simp only [Sem.run_bind, as_parts25a, as_parts25, Result.andThen]
  simp [ReflectliteValue.flagAddr, loadVar, isAgg, underlying, Tryz.underlying58, hb, Result.andThen, as_direct25, storeVar, Value.cells, storeCells, Addr.add]
  rw [run_store Tryz.prog W ta _ _ (by rfl)]
  simp [ht, hf]

set_option maxHeartbeats 4000000 in
theorem as_hit (e t : Addr) (old : Value) (w : World) (hg : w.cell? ⟨0, 0, none⟩ = some (.iface 152 (.agg #[.pointer (some ⟨5, 31, none⟩)]))) (ht0 : w.cell? t = some old) (hf0 : w.frozen? t = false) :
    Calls Tryz.prog 22 #[.iface 58 (.pointer (some e)), .iface 66 (.pointer (some t))] w fun ev w' => ev = .returned (.bool true) ∧ w' = ((((w.alloc (.cells #[.pointer (some t)] 66)).alloc (.cells #[.pointer (some ⟨5, 66, none⟩), .pointer (some ⟨w.heap.size, 0, none⟩), .int .u64 150] 101)).alloc (.cells #[.pointer (some ⟨5, 66, none⟩), .pointer (some ⟨w.heap.size, 0, none⟩), .int .u64 150] 101)).alloc (.cells #[.pointer (some e)] 58)).setCell t (.pointer (some e)) := by
  have h6 := @run_callFunc_extern Tryz.prog 44 _ (fun args => ReflectliteValue.unpack (args.getD 0 (.tuple #[]))) Tryz.func44 (by kernel_rfl) (by kernel_rfl) (by kernel_rfl) (by kernel_rfl)
  have h7 := @run_callFunc_extern Tryz.prog 45 _ (ReflectliteValue.methodAny (ReflectliteValue.valueError "reflectlite.Value.Type" 0) (fun t _ _ _ => ReflectliteType.toType t)) Tryz.func45 (by kernel_rfl) (by kernel_rfl) (by kernel_rfl) (by kernel_rfl)
  have h8 := @run_callFunc_extern Tryz.prog 46 _ (ReflectliteValue.method (ReflectliteValue.valueError "reflectlite.Value.IsNil" 0) ReflectliteValue.isNil) Tryz.func46 (by kernel_rfl) (by kernel_rfl) (by kernel_rfl) (by kernel_rfl)
  have h27 := @run_callFunc_extern Tryz.prog 187 _ (ReflectliteType.abiMethod fun t => do pure (.int .u8 (← Rtype.kind t))) Tryz.func187 (by kernel_rfl) (by kernel_rfl) (by kernel_rfl) (by kernel_rfl)
  have h37 := @run_callFunc_extern Tryz.prog 200 _ (ReflectliteType.method ReflectliteType.elem) Tryz.func200 (by kernel_rfl) (by kernel_rfl) (by kernel_rfl) (by kernel_rfl)
  have h38 := @run_callFunc_extern Tryz.prog 201 _ (ReflectliteType.relation "Implements" ReflectliteType.implements_) Tryz.func201 (by kernel_rfl) (by kernel_rfl) (by kernel_rfl) (by kernel_rfl)
  have h10 := @run_callFunc_extern Tryz.prog 96 _ ReflectliteType.typeOf Tryz.func96 (by kernel_rfl) (by kernel_rfl) (by kernel_rfl) (by kernel_rfl)
  have h35 := @run_callFunc_extern Tryz.prog 198 _ (ReflectliteType.relation "AssignableTo" ReflectliteType.assignableTo) Tryz.func198 (by kernel_rfl) (by kernel_rfl) (by kernel_rfl) (by kernel_rfl)
  have h11 := @run_callFunc_extern Tryz.prog 97 _ (ReflectliteValue.method (ReflectliteValue.valueError "reflectlite.Value.Elem" 0) ReflectliteValue.elem) Tryz.func97 (by kernel_rfl) (by kernel_rfl) (by kernel_rfl) (by kernel_rfl)
  have h12 := @run_callFunc_extern Tryz.prog 98 _ ReflectliteValue.set Tryz.func98 (by kernel_rfl) (by kernel_rfl) (by kernel_rfl) (by kernel_rfl)
  have tO := as_typeOf25
  have mA := as_methodAssignableTo
  have a25 := as_assignable25
  have v25 := as_valueOf25
  have f6 := as_valueOf27
  have f7 := as_type27
  have mK := as_methodKind
  have mE := as_methodElem
  have mI := as_methodImplements
  have k27 := as_kind27
  have k25 := as_kind25
  have e27 := as_elem27
  have i25 := as_implements25
  have n8 := as_isNil27 ⟨w.heap.size, 0, none⟩ t ((w.alloc (.cells #[.pointer (some t)] 66)).alloc (.cells #[.pointer (some ⟨5, 66, none⟩), .pointer (some ⟨w.heap.size, 0, none⟩), .int .u64 150] 101)) (by simp)
  have hlt : 0 < w.heap.size := by
    rcases Nat.eq_zero_or_pos w.heap.size with h0 | h
    · simp [World.cell?, h0] at hg
    · exact h
  have hg2 : ((w.alloc (.cells #[.pointer (some t)] 66)).alloc (.cells #[.pointer (some ⟨5, 66, none⟩), .pointer (some ⟨w.heap.size, 0, none⟩), .int .u64 150] 101)).cell? ⟨0, 0, none⟩ = some (.iface 152 (.agg #[.pointer (some ⟨5, 31, none⟩)])) := by
    rw [World.cell?_alloc_lt _ _ ⟨0, 0, none⟩ (by simp), World.cell?_alloc_lt _ _ ⟨0, 0, none⟩ hlt]; exact hg
  have htl : t.block < w.heap.size := by
    rcases Nat.lt_or_ge t.block w.heap.size with h | h
    · exact h
    · simp [World.cell?, Array.getElem?_eq_none h] at ht0
  have el := as_elemV27 ⟨w.heap.size, 0, none⟩ t (((w.alloc (.cells #[.pointer (some t)] 66)).alloc (.cells #[.pointer (some ⟨5, 66, none⟩), .pointer (some ⟨w.heap.size, 0, none⟩), .int .u64 150] 101)).alloc (.cells #[.pointer (some ⟨5, 66, none⟩), .pointer (some ⟨w.heap.size, 0, none⟩), .int .u64 150] 101)) (by rw [World.cell?_alloc_lt _ _ ⟨w.heap.size, 0, none⟩ (by simp; omega)]; simp)
  have st := as_set25 t ⟨w.heap.size + 1 + 1 + 1, 0, none⟩ e old ((((w.alloc (.cells #[.pointer (some t)] 66)).alloc (.cells #[.pointer (some ⟨5, 66, none⟩), .pointer (some ⟨w.heap.size, 0, none⟩), .int .u64 150] 101)).alloc (.cells #[.pointer (some ⟨5, 66, none⟩), .pointer (some ⟨w.heap.size, 0, none⟩), .int .u64 150] 101)).alloc (.cells #[.pointer (some e)] 58))
    (by rw [World.cell?_alloc_at _ _ _ _ (by simp)]; rfl)
    (by rw [World.cell?_alloc_lt _ _ t (by simp; omega), World.cell?_alloc_lt _ _ t (by simp; omega), World.cell?_alloc_lt _ _ t (by simp; omega), World.cell?_alloc_lt _ _ t htl]; exact ht0)
    (by rw [World.frozen?_alloc_old _ _ t (by simp; omega), World.frozen?_alloc_old _ _ t (by simp; omega), World.frozen?_alloc_old _ _ t (by simp; omega), World.frozen?_alloc_old _ _ t (Nat.ne_of_lt htl)]; exact hf0)
  go_enter Tryz.func22, Tryz.ntmps22
  go_wp2
  refine wp_loop_rounds 1 ?_
  rw [rounds_succ]
  go_wp2
  go_ret
  exact ⟨rfl, rfl⟩
end Go.Proofs.YtmaokphbfjpodaaGreatDoor.E

/- errors.As and errors.Is as calls over the engine's data. No conditions. -/
set_option linter.unusedVariables false
set_option linter.unusedSimpArgs false
namespace Go.Proofs.YtmaokphbfjpodaaGreatDoor.E
open Go Go.RowKit

theorem two_vs {w : World} {C : Cz} {vs : Array Value} {x y : Val} (h : RepVs w C vs.toList [x, y]) : ∃ u v, vs = #[u, v] ∧ RepV w C u x ∧ RepV w C v y := by
  have hl : vs.size = 2 := by have := h.1; simpa using this
  obtain ⟨u, v, rfl⟩ : ∃ u v, vs = #[u, v] := by
    match vs, hl with
    | ⟨[u, v]⟩, _ => exact ⟨u, v, rfl⟩
  exact ⟨u, v, rfl, h.2 0 u x rfl rfl, h.2 1 v y rfl rfl⟩
theorem as_call (cells : List DV) : ACall Tryz.prog 22 [.c (.d (.ifc 58 (.rp 0 cells))), .c (.ifc 66 (.ptr 0 0))] [.var [.d .nilp]]
    (fun o σ => o = .ret (.c (.d (.bool true))) ∧ σ = [.var [.d (.rp 0 cells)]]) where
  out := fun w C vs hI hv => by
    obtain ⟨u, v, rfl, h1, h2⟩ := two_vs hv
    cases repA_d (c_of h1) with
    | ifc _ u _ h1 =>
    cases (c_of h2) with
    | ifc _ v _ h2 =>
    cases h2 with
    | ptr _ _ b en he hr hb =>
    have hrp := h1
    cases h1 with
    | rp _ be oe _ cs e fz vs hrt hh hcell hrep =>
    obtain ⟨k1, b', ca, ty, k2, k3, k4⟩ := hI.ok 0 _ en rfl he
    rw [hb] at k2; cases k2
    obtain ⟨x, rfl⟩ : ∃ x, ca = #[x] := by
      have := k4.1
      match ca, this with
      | ⟨[x]⟩, _ => exact ⟨x, rfl⟩
    have hx := k4.2 0 x _ rfl rfl
    cases repA_d hx
    obtain ⟨hun, hblt⟩ := hI.unrg 0 _ en b rfl rfl he hb
    obtain ⟨_, gt, gf, hgh⟩ := hI.glb 0 _ (by first | exact List.mem_singleton.2 rfl | exact List.mem_cons_self | exact List.mem_cons_of_mem _ List.mem_cons_self)
    have hg : w.cell? ⟨0, 0, none⟩ = some (.iface 152 (.agg #[.pointer (some ⟨5, 31, none⟩)])) := by simp [World.cell?, hgh]
    have hfz : w.frozen? ⟨b, 0, none⟩ = false := by simp [World.frozen?, k3]
    refine (as_hit ⟨be, oe, none⟩ ⟨b, 0, none⟩ (.pointer none) w hg (by simp [World.cell?, k3]) hfz).mono fun e1 w' ⟨g1, g2⟩ => ?_
    subst g1
    generalize hW : (((w.alloc _).alloc _).alloc _).alloc _ = W at g2
    have hWs : W.heap.size = w.heap.size + 4 := by rw [← hW]; simp
    have hWo : ∀ k, k < w.heap.size → W.heap[k]? = w.heap[k]? := fun k hk => by
      rw [← hW, alloc_old _ _ (by simp; omega), alloc_old _ _ (by simp; omega), alloc_old _ _ (by simp; omega), alloc_old _ _ hk]
    have hos : W.os = w.os ∧ W.tape = w.tape ∧ W.output = w.output := by rw [← hW]; exact ⟨rfl, rfl, rfl⟩
    have hs' : w'.heap.size = w.heap.size + 4 := by rw [g2]; simp [hWs]
    have hold : ∀ k, k < w.heap.size → en.b ≠ some k → w'.heap[k]? = w.heap[k]? := fun k hk hne => by
      rw [g2, Below.heap_setCell _ _ _ _ (fun e => hne (by rw [hb, e])), hWo k hk]
    have hnew : w'.heap[b]? = some (.cells #[.pointer (some ⟨be, oe, none⟩)] ty (0, 0)) := by
      rw [g2]
      exact one_setCell (by rw [hWo b hblt]; exact k3)
    obtain ⟨c1, i1⟩ := hI.upd (w' := w') (o' := .var [.d (.rp 0 cells)]) rfl he rfl (by omega) (.refl en) hold (fun b hb => .inl hb) (fun hle => ⟨k1, b, _, ty, hb, hnew, rfl, fun i v x hv hx => by
      match i with
      | 0 => simp at hv hx; subst hv; subst hx; exact .d _ _ (hrp.mono hle.rg)
      | i + 1 => simp at hv⟩)
    have x1 := Ext.upd (w' := w') hI (o' := .var [.d (.rp 0 cells)]) rfl he rfl (by rw [g2]; exact hos.1) (by rw [g2]; exact hos.2.1) (by rw [g2]; exact hos.2.2) (by omega) c1 hold (fun b hb => .inl hb)
    exact ⟨_, _, _, ⟨rfl, rfl⟩, i1, x1, _, rfl, .c _ _ (.d _ _ (.bool _))⟩
end Go.Proofs.YtmaokphbfjpodaaGreatDoor.E

/- Walks: Fault, blanks, wakes (parse). No conditions. -/
set_option linter.unusedVariables false
set_option linter.unusedSimpArgs false
namespace Go.Proofs.YtmaokphbfjpodaaGreatDoor.E
open Go

def flcV (c a : Int) (w : ByteArray) : Val := .agg [.d (.int .i64 c), .d (.int .i64 a), .d (.str w)]
set_option maxRecDepth 10000 in
theorem fault0_call : ACall Tryz.prog 10 [.c (.d .nili)] [] (fun o σ => o = .ret (.tup [flcV 0 0 s0, .c (.d (.bool true))]) ∧ σ = []) := by
  refine ACall.body tab_ok (ρ := 0) (N := 36) Tryz.func10 rfl rfl rfl rfl rfl ?_
  repeat' first | refine AW.seq ?_ | refine AW.block ?_ | (refine (_root_.id : AW _ _ _ (.region 5 _ true) _ _ → _) ?_; refine AW.draw (id := 5) tab_ok mixed [0, 1, 2, 3, 4, 5, 6, 7, 8, 9, 10, 11, 12, 13, 14] (by kernel_rfl) ?_; conv => whnf) | ((first | refine AW.region tab_ok ?_ | refine AW.cond ?_ | refine AW.skip ?_ | refine AW.ret ?_ | refine AW.exit ?_); conv => whnf) | ((first | refine And.intro (@rfl Val _) ?_ | refine And.intro (by decide) ?_ | refine cs (fun _ => ?_) (fun _ => ?_)) <;> conv => whnf)
  all_goals first | exact ⟨rfl, rfl⟩
set_option maxRecDepth 10000 in
theorem fault1_call (c a : Int) (w : ByteArray) (hc : c ≠ 0) : ACall Tryz.prog 10 [.c (.d (faultI c a w))] [] (fun o σ => o = .ret (.tup [flcV c a w, .c (.d (.bool true))]) ∧ σ = []) := by
  have A := as_call [.int .i64 c, .int .i64 a, .str w]
  unfold faultI
  refine ACall.body tab_ok (ρ := 0) (N := 36) Tryz.func10 rfl rfl rfl rfl rfl ?_
  repeat' first | refine AW.seq ?_ | refine AW.block ?_ | (refine (_root_.id : AW _ _ _ (.region 5 _ true) _ _ → _) ?_; refine AW.draw (id := 5) tab_ok mixed [0, 1, 2, 3, 4, 5, 6, 7, 8, 9, 10, 11, 12, 13, 14] (by kernel_rfl) ?_; conv => whnf) | ((first | refine AW.region tab_ok ?_ | refine AW.cond ?_ | refine AW.skip ?_ | refine AW.ret ?_ | refine AW.exit ?_); conv => whnf) | (refine (A).mono ?_; rintro _ _ ⟨rfl, rfl⟩; conv => whnf) | ((first | refine And.intro (@rfl Val _) ?_ | refine And.intro (by decide) ?_ | refine cs (fun _ => ?_) (fun _ => ?_)) <;> conv => whnf)
  all_goals first | exact ⟨rfl, rfl⟩ | (exfalso; simp_all; done)
def T1 : ByteArray := ⟨#[92, 120, 58, 105, 110, 116, 46, 120, 43, 49]⟩
def T2 : ByteArray := ⟨#[49, 32, 60, 32, 50, 32, 60, 32, 51]⟩
def wk1 : Bool := match readF T1 with
  | .ok (.node k name _ _ tk _ _ _ _ _ [.node k2 _ _ _ _ _ _ _ _ pl2 _]) => decide (k = 4) && decide (name = ⟨#[120]⟩) && decide (tk = 1) && decide (k2 = 15) && decide (pl2 = 8)
  | _ => false
def wk2 : Bool := match readF T2 with
  | .error x => decide (x = (40, 6, ⟨#[60]⟩))
  | _ => false
theorem wk1_ok : wk1 = true := by decide +kernel
theorem wk2_ok : wk2 = true := by decide +kernel
set_option maxRecDepth 10000 in
set_option maxHeartbeats 1000000 in
theorem wakes04_call : ACall Tryz.prog 7 [] [] (fun o σ => o = .ret (.c (.d (.bool true))) ∧ σ = []) := by
  have P := parseTerm_call T1
  have Q := parseTerm_call T2
  have h1 := wk1_ok
  have h2 := wk2_ok
  have F := fault1_call 40 6 ⟨#[60]⟩ (by decide)
  unfold wk1 at h1
  unfold wk2 at h2
  unfold termO at P Q
  split at h1
  · rename_i k nm ag nu tk tks uk uks lb pl k2 nm2 ag2 nu2 tk2 tks2 uk2 uks2 lb2 pl2 ks2 hr
    split at h2
    · rename_i x hr2
      rw [hr] at P
      rw [hr2] at Q
      simp only [Bool.and_eq_true, decide_eq_true_eq] at h1 h2
      obtain ⟨⟨⟨⟨rfl, rfl⟩, rfl⟩, rfl⟩, rfl⟩ := h1
      subst h2
      refine ACall.body tab_ok (ρ := 0) (N := 78) Tryz.func7 rfl rfl rfl rfl rfl ?_
      repeat' first | ((refine And.intro (⟨by decide, by simp [Tm.rows]⟩ : _ ∧ _) ?_; conv => whnf)) | ((intro row hrow; obtain rfl := Option.some.inj hrow; conv => whnf)) | refine AW.seq ?_ | refine AW.block ?_ | ((first | refine AW.region tab_ok ?_ | refine AW.cond ?_ | refine AW.skip ?_ | refine AW.ret ?_ | refine AW.exit ?_); conv => whnf) | ((first | refine (P).mono ?_ | refine (Q).mono ?_ | refine (F).mono ?_); rintro _ _ ⟨rfl, rfl⟩; conv => whnf) | ((first | refine And.intro (@rfl Val _) ?_ | refine And.intro (by decide) ?_ | refine cs (fun _ => ?_) (fun _ => ?_)) <;> conv => whnf)
      all_goals first | exact ⟨rfl, rfl⟩
    · cases h2
  · cases h1
end Go.Proofs.YtmaokphbfjpodaaGreatDoor.E
