/- Texts, merged: Pl5, Rd7, Pu1, Pu2, Pu3, Sp1, Rw1. No conditions. -/
import Derived.Test.YtmaokphbfjpodaaGreatDoorGenX15
import Derived.Test.YtmaokphbfjpodaaGreatDoorGenX11
import Derived.Test.YtmaokphbfjpodaaGreatDoorGenX4
import Derived.Test.YtmaokphbfjpodaaGreatDoorEngX3
/- A fault has a number; how a text that is cut is refused. In plain Lean, no conditions. -/
set_option linter.unusedVariables false
set_option linter.unusedSimpArgs false
set_option linter.unusedSectionVars false
namespace Go.Proofs.YtmaokphbfjpodaaGreatDoor.E
open Go

def Bn {α : Type} (p : PR α) : Prop := ∀ e a w, p = .bad e a w → e ≠ 0
theorem bn_ok {α : Type} {x : α} {j : Nat} : Bn (.ok x j : PR α) := fun _ _ _ h => by cases h
theorem bn_bad {α : Type} {e a : Int} {w : ByteArray} (he : e ≠ 0) : Bn (.bad e a w : PR α) := fun _ _ _ h => by cases h; exact he
theorem bn_wbad {α : Type} {l : List Wd} {i : Nat} : Bn (wbad l i : PR α) := bn_bad (by decide)
theorem bn_bind {α β : Type} {p : PR α} {f : α → Nat → PR β} (h : Bn p) (hf : ∀ x j, Bn (f x j)) : Bn (bindP p f) := by
  cases p with
  | ok x j => exact hf x j
  | bad e a w => exact bn_bad (h e a w rfl)
theorem bn_ite {α : Type} {P : Prop} [Decidable P] {a b : PR α} (ha : Bn a) (hb : Bn b) : Bn (if P then a else b) := by
  split
  · exact ha
  · exact hb
section
variable {l : List Wd}
theorem tLoop_bn {part : Nat → PR Ty} (hp : ∀ i, Bn (part i)) (k : Int) (s : ByteArray) : ∀ (n : Nat) (a : Ty) (i : Nat), Bn (tLoop l part k s n a i)
  | 0, a, i => bn_ok
  | n + 1, a, i => by
    unfold tLoop
    exact bn_ite (bn_bind (hp _) fun x j => tLoop_bn hp k s n _ _) bn_ok
theorem tAtom_bn {W : Nat → PR Ty} (hW : ∀ i, Bn (W i)) (i : Nat) : Bn (tAtom l W i) := by
  unfold tAtom
  repeat' first | with_reducible exact bn_ok | with_reducible exact bn_wbad | (with_reducible refine bn_bind (hW _) (fun x j => ?_)) | with_reducible exact hW _ | (with_reducible refine bn_ite ?_ ?_)
theorem tLeft_bn {part : Nat → PR Ty} (hp : ∀ i, Bn (part i)) (k : Int) (s : ByteArray) (i : Nat) : Bn (tLeft l part k s i) := by
  unfold tLeft
  exact bn_bind (hp _) fun x j => tLoop_bn hp k s _ _ _
theorem tWhole_bn : ∀ (n i : Nat), Bn (tWhole l n i)
  | 0, i => bn_wbad
  | n + 1, i => by
    unfold tWhole
    exact bn_bind (tLeft_bn (fun i => tLeft_bn (fun i => tAtom_bn (tWhole_bn n) i) _ _ i) _ _ i) fun x j => bn_ite (bn_bind (tWhole_bn n _) fun y j => bn_ok) bn_ok
theorem typP_bn (i : Nat) : Bn (typP l i) := by
  unfold typP
  refine bn_bind (tWhole_bn _ i) fun x j => ?_
  split
  · exact bn_ok
  · rename_i h; exact bn_bad h
theorem mustP_bn (k : Int) (s : ByteArray) (i : Nat) : Bn (mustP l k s i) := by
  unfold mustP
  exact bn_ite bn_ok bn_wbad
theorem nameP_bn (i : Nat) : Bn (nameP l i) := by
  unfold nameP
  split
  · exact bn_ite bn_ok bn_wbad
  · exact bn_wbad
theorem numP_bn (p : Int) (i : Nat) : Bn (numP l p i) := by
  unfold numP
  split
  · exact bn_ite bn_ok bn_wbad
  · exact bn_wbad
theorem annP_bn (i : Nat) : Bn (annP l i) := by
  unfold annP
  repeat' first | with_reducible exact bn_ok | with_reducible exact bn_wbad | (with_reducible refine bn_bind (mustP_bn _ _ _) (fun x j => ?_)) | (with_reducible refine bn_bind (nameP_bn _) (fun x j => ?_)) | (with_reducible refine bn_bind (typP_bn _) (fun x j => ?_)) | (with_reducible refine bn_bind (numP_bn _ _) (fun x j => ?_)) | with_reducible exact mustP_bn _ _ _ | with_reducible exact nameP_bn _ | with_reducible exact typP_bn _ | with_reducible exact numP_bn _ _ | (with_reducible refine bn_ite ?_ ?_)
theorem isLoop_bn : ∀ (n : Nat) (t : Tm) (i : Nat), Bn (isLoop l n t i)
  | 0, t, i => bn_ok
  | n + 1, t, i => by
    unfold isLoop
    exact bn_ite (bn_bind (typP_bn _) fun a j => isLoop_bn n _ _) bn_ok
theorem opP_bn {part : Nat → PR Tm} (hp : ∀ i, Bn (part i)) (t : Tm) (i : Nat) : Bn (opP l part t i) := by
  unfold opP
  exact bn_bind (hp _) fun u j => bn_ok
theorem opLoop_bn {part : Nat → PR Tm} (hp : ∀ i, Bn (part i)) (ops : List ByteArray) : ∀ (n : Nat) (t : Tm) (i : Nat), Bn (opLoop l part ops n t i)
  | 0, t, i => bn_ok
  | n + 1, t, i => by
    unfold opLoop
    exact bn_ite (bn_bind (opP_bn hp _ _) fun u j => opLoop_bn hp ops n _ _) bn_ok
theorem pAtom_bn {W : Nat → PR Tm} (hW : ∀ i, Bn (W i)) (i : Nat) : Bn (pAtom l W i) := by
  unfold pAtom
  split
  · exact bn_wbad
  · repeat' first | with_reducible exact bn_ok | with_reducible exact bn_wbad | (with_reducible refine bn_bind (hW _) (fun x j => ?_)) | (with_reducible refine bn_bind (mustP_bn _ _ _) (fun x j => ?_)) | (with_reducible refine bn_bind (nameP_bn _) (fun x j => ?_)) | (with_reducible refine bn_bind (typP_bn _) (fun x j => ?_)) | (with_reducible refine bn_bind (numP_bn _ _) (fun x j => ?_)) | with_reducible exact hW _ | with_reducible exact mustP_bn _ _ _ | with_reducible exact nameP_bn _ | with_reducible exact typP_bn _ | with_reducible exact numP_bn _ _ | (with_reducible refine bn_ite ?_ ?_)
theorem appLoop_bn {W : Nat → PR Tm} (hW : ∀ i, Bn (W i)) : ∀ (n : Nat) (t : Tm) (i : Nat), Bn (appLoop l W n t i)
  | 0, t, i => bn_ok
  | n + 1, t, i => by
    unfold appLoop
    exact bn_ite (bn_bind (hW _) fun a j => bn_bind (mustP_bn _ _ _) fun _ j => appLoop_bn hW n _ _) bn_ok
theorem inP_bn {un : Nat → PR Tm} (hu : ∀ i, Bn (un i)) (k p : Int) (i : Nat) : Bn (inP l un k p i) := by
  unfold inP
  repeat' first | with_reducible exact bn_ok | with_reducible exact bn_wbad | (with_reducible refine bn_bind (hu _) (fun x j => ?_)) | (with_reducible refine bn_bind (mustP_bn _ _ _) (fun x j => ?_)) | (with_reducible refine bn_bind (nameP_bn _) (fun x j => ?_)) | (with_reducible refine bn_bind (typP_bn _) (fun x j => ?_)) | (with_reducible refine bn_bind (numP_bn _ _) (fun x j => ?_)) | with_reducible exact hu _ | with_reducible exact mustP_bn _ _ _ | with_reducible exact nameP_bn _ | with_reducible exact typP_bn _ | with_reducible exact numP_bn _ _ | (with_reducible refine bn_ite ?_ ?_)
theorem pUn_bn {W : Nat → PR Tm} (hW : ∀ i, Bn (W i)) : ∀ (m i : Nat), Bn (pUn l W m i)
  | 0, i => bn_wbad
  | m + 1, i => by
    have ih := pUn_bn hW m
    have ha := pAtom_bn (l := l) hW
    have hl := appLoop_bn (l := l) hW
    have hin := inP_bn (l := l) ih
    unfold pUn
    repeat' first | with_reducible exact bn_ok | with_reducible exact bn_wbad | (with_reducible refine bn_bind (ih _) (fun x j => ?_)) | (with_reducible refine bn_bind (ha _) (fun x j => ?_)) | (with_reducible refine bn_bind (hl _ _ _) (fun x j => ?_)) | (with_reducible refine bn_bind (hin _ _ _) (fun x j => ?_)) | (with_reducible refine bn_bind (mustP_bn _ _ _) (fun x j => ?_)) | (with_reducible refine bn_bind (nameP_bn _) (fun x j => ?_)) | (with_reducible refine bn_bind (typP_bn _) (fun x j => ?_)) | (with_reducible refine bn_bind (numP_bn _ _) (fun x j => ?_)) | with_reducible exact ih _ | with_reducible exact ha _ | with_reducible exact hl _ _ _ | with_reducible exact hin _ _ _ | with_reducible exact mustP_bn _ _ _ | with_reducible exact nameP_bn _ | with_reducible exact typP_bn _ | with_reducible exact numP_bn _ _ | (with_reducible refine bn_ite ?_ ?_)
theorem pIs_bn {W : Nat → PR Tm} (hW : ∀ i, Bn (W i)) (i : Nat) : Bn (pIs l W i) := by
  have hu : ∀ i, Bn (pU l W i) := fun i => pUn_bn hW _ i
  have hm : ∀ i, Bn (pMul l W i) := fun i => bn_bind (hu i) fun t j => opLoop_bn hu _ _ t j
  have hs : ∀ i, Bn (pSum l W i) := fun i => bn_bind (hm i) fun t j => opLoop_bn hm _ _ t j
  have hc : ∀ i, Bn (pCmp l W i) := fun i => bn_bind (hs i) fun t j => bn_ite (opP_bn hs t j) bn_ok
  exact bn_bind (hc i) fun t j => isLoop_bn _ t j
theorem branchP_bn {W : Nat → PR Tm} (hW : ∀ i, Bn (W i)) (i : Nat) : Bn (branchP l W i) := by
  unfold branchP
  repeat' first | with_reducible exact bn_ok | with_reducible exact bn_wbad | (with_reducible refine bn_bind (hW _) (fun x j => ?_)) | (with_reducible refine bn_bind (mustP_bn _ _ _) (fun x j => ?_)) | (with_reducible refine bn_bind (nameP_bn _) (fun x j => ?_)) | (with_reducible refine bn_bind (typP_bn _) (fun x j => ?_)) | (with_reducible refine bn_bind (numP_bn _ _) (fun x j => ?_)) | with_reducible exact hW _ | with_reducible exact mustP_bn _ _ _ | with_reducible exact nameP_bn _ | with_reducible exact typP_bn _ | with_reducible exact numP_bn _ _ | (with_reducible refine bn_ite ?_ ?_)
theorem pStep_bn {W : Nat → PR Tm} (hW : ∀ i, Bn (W i)) (i : Nat) : Bn (pStep l W i) := by
  unfold pStep lamP letP ifP recP caseP
  repeat' first | with_reducible exact bn_ok | with_reducible exact bn_wbad | (with_reducible refine bn_bind (hW _) (fun x j => ?_)) | (with_reducible refine bn_bind (annP_bn _) (fun x j => ?_)) | (with_reducible refine bn_bind (branchP_bn hW _) (fun x j => ?_)) | (with_reducible refine bn_bind (pIs_bn hW _) (fun x j => ?_)) | (with_reducible refine bn_bind (mustP_bn _ _ _) (fun x j => ?_)) | (with_reducible refine bn_bind (nameP_bn _) (fun x j => ?_)) | (with_reducible refine bn_bind (typP_bn _) (fun x j => ?_)) | (with_reducible refine bn_bind (numP_bn _ _) (fun x j => ?_)) | with_reducible exact hW _ | with_reducible exact annP_bn _ | with_reducible exact branchP_bn hW _ | with_reducible exact pIs_bn hW _ | with_reducible exact mustP_bn _ _ _ | with_reducible exact nameP_bn _ | with_reducible exact typP_bn _ | with_reducible exact numP_bn _ _ | (with_reducible refine bn_ite ?_ ?_)
theorem pTerm_bn : ∀ (n i : Nat), Bn (pTerm l n i)
  | 0, i => bn_wbad
  | n + 1, i => pStep_bn (pTerm_bn n) i
theorem wordsP_bn : Bn (wordsP l) := by
  unfold wordsP
  exact bn_bind (pTerm_bn _ _) fun t j => bn_ite (bn_bad (by decide)) (bn_ite (bn_bad (by decide)) bn_ok)
end
theorem wordL_code {p : Nat} {l : List UInt8} {e : Int} {w : ByteArray} (h : wordL p l = .error (e, w)) : e ≠ 0 := by
  cases l with
  | nil => cases h; decide
  | cons c l =>
    by_cases h1 : letterF c.toNat = true
    · rw [wordL_letter h1] at h
      split at h
      · cases h; decide
      · split at h <;> cases h
    · have h1 : letterF c.toNat = false := by simpa using h1
      by_cases h2 : digitF c.toNat = true
      · rw [wordL_digit h1 h2] at h
        split at h
        · cases h; decide
        · rename_i v hv
          by_cases hc : (spanL false (c :: l) > 1 ∧ c = 48) ∨ nextLetter ((c :: l).drop (spanL false (c :: l))) = true
          · rw [if_pos hc] at h; cases h; decide
          · rw [if_neg hc] at h; cases h
      · have h2 : digitF c.toNat = false := by simpa using h2
        by_cases h45 : c = 45
        · subst h45
          cases l with
          | nil => cases h
          | cons d r =>
            by_cases h62 : d = 62
            · subst h62; cases h
            · rw [wordL_dash fun q e => h62 (List.cons.inj e).1] at h; cases h
        · by_cases hm : c ∈ signsF
          · rw [wordL_sign h1 h2 h45 hm] at h; cases h
          · rw [wordL_none h1 h2 h45 hm] at h; cases h; decide
theorem scanL_code : ∀ (n p : Nat) (s : List UInt8) (x : Int × Int × ByteArray), scanL n p s = .error x → x.1 ≠ 0
  | 0, p, s, x, h => by cases h
  | n + 1, p, s, x, h => by
    rw [scanL_skip] at h
    by_cases hr : s.drop (skipL false s) = []
    · rw [hr, scanL_nil] at h; cases h
    · rw [scanL_step n _ _ (skipL_again s false) hr] at h
      split at h
      · rename_i e w hw
        cases h
        exact wordL_code hw
      · split at h
        · rename_i y hy
          cases h
          exact scanL_code n _ _ _ hy
        · cases h
theorem read_code {s : ByteArray} {x : Int × Int × ByteArray} (h : readF s = .error x) : x.1 ≠ 0 := by
  unfold readF at h
  split at h
  · rename_i y hy
    cases h
    unfold scanF at hy
    split at hy
    · cases hy; decide
    · split at hy
      · rename_i z hz
        cases hy
        exact scanL_code _ _ _ _ hz
      · cases hy
  · rename_i l hl
    obtain ⟨_, ws, hlw, _, _⟩ := scanF_ok hl
    have hE : EndW l ws.length := ⟨⟨0, s0, 0, s.size⟩, by rw [hlw]; simp, rfl⟩
    split at h
    · rename_i e a w hw
      cases h
      exact wordsP_bn e a w hw
    · rename_i t j hw
      have hj := wordsP_bd hE t j hw
      obtain ⟨w, hwj⟩ : ∃ w, l[j]? = some w := ⟨_, List.getElem?_eq_getElem (by rw [hlw]; simp; omega)⟩
      rw [hwj] at h
      simp only at h
      split at h
      · cases h
      · cases h; show (40 : Int) ≠ 0; decide
end Go.Proofs.YtmaokphbfjpodaaGreatDoor.E

/- Walks: the document's Words and Term. No conditions. -/
set_option linter.unusedVariables false
set_option linter.unusedSimpArgs false
namespace Go.Proofs.YtmaokphbfjpodaaGreatDoor.E
open Go

set_option maxRecDepth 10000 in
theorem rnew_call (l : List Wd) (hl : l.length ≤ 1000000) : ACall Tryz.prog 40 [.c (.d (.sl 0 4 (wrows l))), .c (.d (.int .i64 0))] [] (fun o σ => o = .ret (.c (.ptr 0 0)) ∧ σ = rfO l 0 0 0 ⟨#[]⟩) := by
  have hm : max (0 : Int) (min (0 : Int) ((wrows l).length : Int)) = ((0 : Nat) : Int) := by rw [wrows_len]; omega
  unfold rfO
  refine ACall.body tab_ok (ρ := 0) (N := 13) Tryz.func40 rfl rfl rfl rfl rfl ?_
  repeat' first | refine AW.seq ?_ | refine AW.block ?_ | ((first | refine AW.region tab_ok ?_ | refine AW.cond ?_ | refine AW.skip ?_ | refine AW.ret ?_ | refine AW.exit ?_); conv => whnf) | ((first | refine And.intro (@rfl Val _) ?_ | refine And.intro (by decide) ?_ | refine cs (fun _ => ?_) (fun _ => ?_)) <;> conv => whnf)
  all_goals first | (rw [hm]; exact ⟨rfl, rfl⟩) | exact ⟨rfl, rfl⟩
/-- What Words tells. -/
def rwordsO (l : List Wd) : Out := match wordsP l with
  | .ok t j => .ret (.tup [t.val, .c (.d (.int .i64 j)), flcV 0 0 ⟨#[]⟩])
  | .bad e x w => .ret (.tup [tmZ.val, .c (.d (.int .i64 0)), flcV e x w])
set_option maxRecDepth 10000 in
set_option maxHeartbeats 2000000 in
theorem rwords_call (l : List Wd) (hl : l.length ≤ 1000000) : ACall Tryz.prog 21 [.c (.d (.sl 0 4 (wrows l))), .c (.d (.int .i64 0))] [] (fun o σ => o = rwordsO l ∧ σ = []) := by
  have N := rnew_call l hl
  have W := rterm_ok l hl (l.length + 1) 0 (Nat.zero_le _) (by omega)
  unfold rwordsO wordsP
  simp only [rfO] at N W ⊢
  refine ACall.body tab_ok (ρ := 0) (N := 48) Tryz.func21 rfl rfl rfl rfl rfl ?_
  repeat' first | ((refine W.mono ?_; intro o σ hh; rcases rfR_cases hh with ⟨⟨k, nm, ag, nu, tk, tks, uk, uks, lb, pl, ks⟩, j, hp, hj1, hj2, rfl, rfl⟩ | ⟨e, x, w, v, j, hp, he, ⟨gk, gnm, gag, gnu, gtk, gd1, guk, gd2, glb, gpl, gd3, rfl⟩, rfl, rfl⟩ <;> clear hh <;> conv => whnf)) | refine AW.seq ?_ | refine AW.block ?_ | (refine (_root_.id : AW _ _ _ (.region 4 _ true) _ _ → _) ?_; refine AW.draw (id := 4) tab_ok mixed [0, 1, 2, 3, 4, 5, 6, 7, 8] (by kernel_rfl) ?_; conv => whnf) | (refine (_root_.id : AW _ _ _ (.region 9 _ true) _ _ → _) ?_; refine AW.draw (id := 9) tab_ok mixed [0, 1, 2, 3, 4, 5, 6, 7, 8, 9] (by kernel_rfl) ?_; conv => whnf) | ((first | refine AW.region tab_ok ?_ | refine AW.cond ?_ | refine AW.skip ?_ | refine AW.ret ?_ | refine AW.exit ?_); conv => whnf) | ((first | refine (N).mono ?_ | refine (rtnodes_call (.node k nm ag nu tk tks uk uks lb pl ks)).mono ?_ | refine (rtDepth_call (.node k nm ag nu tk tks uk uks lb pl ks)).mono ?_); rintro _ _ ⟨rfl, rfl⟩; conv => whnf) | ((first | refine And.intro (@rfl Val _) ?_ | refine And.intro (by decide) ?_ | refine cs (fun _ => ?_) (fun _ => ?_)) <;> conv => whnf)
  all_goals
    clear N W
    try simp only [decide_eq_true_eq, decide_eq_false_iff_not, gt_iff_lt, bne_iff_ne, ne_eq, bne_eq_false_iff_eq] at *
    rw [hp]
    first
      | (simp only [bindP_bad]; exact ⟨rfl, rfl⟩)
      | (exfalso; exact he (by assumption))
      | (simp only [bindP_ok]
         first
           | (rw [if_pos (by omega)]; exact ⟨rfl, rfl⟩)
           | (rw [if_neg (by omega), if_pos (by omega)]; exact ⟨rfl, rfl⟩)
           | (rw [if_neg (by omega), if_neg (by omega)]; exact ⟨rfl, rfl⟩))
     
/-- What Term tells. -/
def rtermO (s : ByteArray) : Out := match readF s with
  | .ok t => .ret (.tup [t.val, flcV 0 0 ⟨#[]⟩])
  | .error (e, a, w) => .ret (.tup [tmZ.val, flcV e a w])
set_option maxRecDepth 10000 in
set_option maxHeartbeats 2000000 in
theorem rterm_call (s : ByteArray) : ACall Tryz.prog 9 [.c (.d (.str s))] [] (fun o σ => o = rtermO s ∧ σ = []) := by
  have A := rall_call s
  unfold rallO at A
  unfold rtermO
  cases hs : scanF s with
  | error x =>
    obtain ⟨e, a, w⟩ := x
    have hR : readF s = .error (e, a, w) := by unfold readF; rw [hs]
    have he := read_code hR
    have he' : (e != 0) = true := by simpa using he
    rw [hs] at A
    rw [hR]
    refine ACall.body tab_ok (ρ := 0) (N := 49) Tryz.func9 rfl rfl rfl rfl rfl ?_
    repeat' first | ((refine cs (fun _ => ?_) (fun g => absurd (he'.symm.trans g) (by decide)); conv => whnf)) | refine AW.seq ?_ | refine AW.block ?_ | (refine (_root_.id : AW _ _ _ (.region 3 _ true) _ _ → _) ?_; refine AW.draw (id := 3) tab_ok mixed [0, 1, 2, 3] (by kernel_rfl) ?_; conv => whnf) | (refine (_root_.id : AW _ _ _ (.region 6 _ true) _ _ → _) ?_; refine AW.draw (id := 6) tab_ok mixed [0, 1, 2, 3] (by kernel_rfl) ?_; conv => whnf) | (refine (_root_.id : AW _ _ _ (.region 8 _ true) _ _ → _) ?_; refine AW.draw (id := 8) tab_ok mixed [0, 1, 2, 3, 4, 5, 6, 7, 8, 9, 10, 11, 12, 13] (by kernel_rfl) ?_; conv => whnf) | ((first | refine AW.region tab_ok ?_ | refine AW.cond ?_ | refine AW.skip ?_ | refine AW.ret ?_ | refine AW.exit ?_); conv => whnf) | (refine (A).mono ?_; rintro _ _ ⟨rfl, rfl⟩; conv => whnf) | ((first | refine And.intro (@rfl Val _) ?_ | refine And.intro (by decide) ?_ | refine cs (fun _ => ?_) (fun _ => ?_)) <;> conv => whnf)
    all_goals first | exact ⟨rfl, rfl⟩
  | ok l =>
    rw [hs] at A
    obtain ⟨hz, ws, hl, hlen, _⟩ := scanF_ok hs
    have hE : EndW l ws.length := ⟨⟨0, s0, 0, s.size⟩, by rw [hl]; simp, rfl⟩
    have hll : l.length = ws.length + 1 := by rw [hl]; simp
    have W := rwords_call l (by omega)
    have hB := wordsP_bd hE
    unfold rwordsO at W
    cases hw : wordsP l with
    | bad e a w =>
      rw [hw] at W
      have hR : readF s = .error (e, a, w) := by unfold readF; rw [hs]; simp only; rw [hw]
      have he := read_code hR
      have he' : (e != 0) = true := by simpa using he
      rw [hR]
      refine ACall.body tab_ok (ρ := 0) (N := 49) Tryz.func9 rfl rfl rfl rfl rfl ?_
      repeat' first | ((refine cs (fun _ => ?_) (fun g => absurd (he'.symm.trans g) (by decide)); conv => whnf)) | refine AW.seq ?_ | refine AW.block ?_ | (refine (_root_.id : AW _ _ _ (.region 3 _ true) _ _ → _) ?_; refine AW.draw (id := 3) tab_ok mixed [0, 1, 2, 3] (by kernel_rfl) ?_; conv => whnf) | (refine (_root_.id : AW _ _ _ (.region 6 _ true) _ _ → _) ?_; refine AW.draw (id := 6) tab_ok mixed [0, 1, 2, 3] (by kernel_rfl) ?_; conv => whnf) | (refine (_root_.id : AW _ _ _ (.region 8 _ true) _ _ → _) ?_; refine AW.draw (id := 8) tab_ok mixed [0, 1, 2, 3, 4, 5, 6, 7, 8, 9, 10, 11, 12, 13] (by kernel_rfl) ?_; conv => whnf) | ((first | refine AW.region tab_ok ?_ | refine AW.cond ?_ | refine AW.skip ?_ | refine AW.ret ?_ | refine AW.exit ?_); conv => whnf) | ((first | refine (A).mono ?_ | refine (W).mono ?_); rintro _ _ ⟨rfl, rfl⟩; conv => whnf) | ((first | refine And.intro (@rfl Val _) ?_ | refine And.intro (by decide) ?_ | refine cs (fun _ => ?_) (fun _ => ?_)) <;> conv => whnf)
      all_goals first | exact ⟨rfl, rfl⟩
    | ok t j =>
      rw [hw] at W
      have hj := hB t j hw
      obtain ⟨w, hwj⟩ : ∃ w, l[j]? = some w := ⟨_, List.getElem?_eq_getElem (by omega)⟩
      have hrow : (wrows l)[j]? = some w.cells := by simp [wrows, hwj]
      obtain ⟨k, nm, ag, nu, tk, tks, uk, uks, lb, pl, ks⟩ := t
      obtain ⟨wk, wt, wn, wp⟩ := w
      have hR : readF s = if wk = 0 then .ok (.node k nm ag nu tk tks uk uks lb pl ks) else .error (40, wp, wt) := by unfold readF; rw [hs]; simp only; rw [hw]; simp only; rw [hwj]
      rw [hR]
      refine ACall.body tab_ok (ρ := 0) (N := 49) Tryz.func9 rfl rfl rfl rfl rfl ?_
      repeat' first | ((refine And.intro (⟨by omega, by rw [wrows_len]; omega⟩ : (0 : Int) ≤ _ ∧ _) ?_; intro row hr; obtain rfl := Option.some.inj (hrow.symm.trans (by simpa using hr)); conv => whnf)) | refine AW.seq ?_ | refine AW.block ?_ | (refine (_root_.id : AW _ _ _ (.region 3 _ true) _ _ → _) ?_; refine AW.draw (id := 3) tab_ok mixed [0, 1, 2, 3] (by kernel_rfl) ?_; conv => whnf) | (refine (_root_.id : AW _ _ _ (.region 6 _ true) _ _ → _) ?_; refine AW.draw (id := 6) tab_ok mixed [0, 1, 2, 3] (by kernel_rfl) ?_; conv => whnf) | (refine (_root_.id : AW _ _ _ (.region 8 _ true) _ _ → _) ?_; refine AW.draw (id := 8) tab_ok mixed [0, 1, 2, 3, 4, 5, 6, 7, 8, 9, 10, 11, 12, 13] (by kernel_rfl) ?_; conv => whnf) | ((first | refine AW.region tab_ok ?_ | refine AW.cond ?_ | refine AW.skip ?_ | refine AW.ret ?_ | refine AW.exit ?_); conv => whnf) | ((first | refine (A).mono ?_ | refine (W).mono ?_); rintro _ _ ⟨rfl, rfl⟩; conv => whnf) | ((first | refine And.intro (@rfl Val _) ?_ | refine And.intro (by decide) ?_ | refine cs (fun _ => ?_) (fun _ => ?_)) <;> conv => whnf)
      all_goals
        first
          | (have hk : ¬ wk = 0 := by simp_all
             simp only [if_neg hk]
             exact ⟨rfl, rfl⟩)
          | (have hk : wk = 0 := by simp_all
             simp only [if_pos hk]
             exact ⟨rfl, rfl⟩)
         
end Go.Proofs.YtmaokphbfjpodaaGreatDoor.E

/- A value put for a name: the model; what hides a name, a kid changed, both. No conditions. -/
set_option linter.unusedVariables false
set_option linter.unusedSimpArgs false
namespace Go.Proofs.YtmaokphbfjpodaaGreatDoor.E
open Go

end Go.Proofs.YtmaokphbfjpodaaGreatDoor.E

/- A value put for a name: the document's walk; whether a term fits; copies. No conditions. -/
set_option linter.unusedVariables false
set_option linter.unusedSimpArgs false
namespace Go.Proofs.YtmaokphbfjpodaaGreatDoor.E
open Go

end Go.Proofs.YtmaokphbfjpodaaGreatDoor.E

/- A value put for a name: copies of types, of terms. No conditions. -/
set_option linter.unusedVariables false
set_option linter.unusedSimpArgs false
namespace Go.Proofs.YtmaokphbfjpodaaGreatDoor.E
open Go

/-- Rows of types that the machine can hold. -/
inductive TyOk : Ty → Prop where
  | node {k ks} (h1 : ks.length * 32 ≤ 140737488355328) (h2 : ∀ t ∈ ks, TyOk t) : TyOk (.node k ks)
/-- Rows of terms that the machine can hold. -/
inductive TmOk : Tm → Prop where
  | node {k name arg num tk tks uk uks label place ks} (h1 : TyOk (.node tk tks)) (h2 : TyOk (.node uk uks)) (h3 : ks.length * 152 ≤ 140737488355328) (h4 : ∀ t ∈ ks, TmOk t) : TmOk (.node k name arg num tk tks uk uks label place ks)
end Go.Proofs.YtmaokphbfjpodaaGreatDoor.E

/- Spoiling: types and terms are written over. No conditions. -/
set_option linter.unusedVariables false
set_option linter.unusedSimpArgs false
namespace Go.Proofs.YtmaokphbfjpodaaGreatDoor.E
open Go

mutual
def Ty.cellsW : Ty → List DV
  | .node k ks => [.int .i8 k, .wsl false (Ty.rowsW ks)]
def Ty.rowsW : List Ty → List (List DV)
  | [] => []
  | t :: l => Ty.cellsW t :: Ty.rowsW l
end
mutual
def Tm.cellsW : Tm → List DV
  | .node k name arg num tk tks uk uks label place ks => [.int .i8 k, .str name, .str arg, .int .i64 num, .int .i8 tk, .wsl false (Ty.rowsW tks), .int .i8 uk, .wsl false (Ty.rowsW uks), .int .i64 label, .int .i64 place, .wsl true (Tm.rowsW ks)]
def Tm.rowsW : List Tm → List (List DV)
  | [] => []
  | t :: l => Tm.cellsW t :: Tm.rowsW l
end
theorem tyrowsW_len : ∀ l : List Ty, (Ty.rowsW l).length = l.length
  | [] => rfl
  | t :: l => by simp [Ty.rowsW, tyrowsW_len l]
theorem tyrowsW_get : ∀ (l : List Ty) (i : Nat) row, (Ty.rowsW l)[i]? = some row → ∃ t, l[i]? = some t ∧ row = t.cellsW
  | [], i, row, h => by simp [Ty.rowsW] at h
  | t :: l, 0, row, h => by simp [Ty.rowsW] at h; exact ⟨t, rfl, h.symm⟩
  | t :: l, i + 1, row, h => by
    simp only [Ty.rowsW, List.getElem?_cons_succ] at h ⊢
    exact tyrowsW_get l i row h
theorem tmrowsW_len : ∀ l : List Tm, (Tm.rowsW l).length = l.length
  | [] => rfl
  | t :: l => by simp [Tm.rowsW, tmrowsW_len l]
theorem tmrowsW_get : ∀ (l : List Tm) (i : Nat) row, (Tm.rowsW l)[i]? = some row → ∃ t, l[i]? = some t ∧ row = t.cellsW
  | [], i, row, h => by simp [Tm.rowsW] at h
  | t :: l, 0, row, h => by simp [Tm.rowsW] at h; exact ⟨t, rfl, h.symm⟩
  | t :: l, i + 1, row, h => by
    simp only [Tm.rowsW, List.getElem?_cons_succ] at h ⊢
    exact tmrowsW_get l i row h
structure IdxI {α : Type} (ks : List α) where
  i : Nat
  hi : i ≤ ks.length
set_option maxRecDepth 10000 in
theorem spoilTy0_call (k : Int) : ACall Tryz.prog 24 [.agg [.d (.int .i8 k), .d (.wsl false [])]] [] (fun o σ => o = .ret (.tup []) ∧ σ = []) := by
  refine ACall.body tab_ok (ρ := 0) (N := 21) Tryz.func24 rfl rfl rfl rfl rfl ?_
  repeat' first | ((refine AW.rounds 2 ?_; conv => whnf)) | refine AW.seq ?_ | refine AW.block ?_ | ((first | refine AW.region tab_ok ?_ | refine AW.cond ?_ | refine AW.skip ?_ | refine AW.ret ?_ | refine AW.exit ?_); conv => whnf) | ((first | refine And.intro (@rfl Val _) ?_ | refine And.intro (by decide) ?_ | refine cs (fun _ => ?_) (fun _ => ?_)) <;> conv => whnf)
  all_goals exact ⟨rfl, rfl⟩
set_option maxRecDepth 10000 in
theorem spoilTy_call (a : Ty) : TyOk a → ACall Tryz.prog 24 [.agg (a.cellsW.map .d)] [] (fun o σ => o = .ret (.tup []) ∧ σ = []) := by
  induction a using Ty.ind with
  | _ k ks ih =>
  rintro (⟨hlen, hks⟩)
  refine ACall.body tab_ok (ρ := 0) (N := 21) Tryz.func24 rfl rfl rfl rfl rfl ?_
  repeat' first | refine AW.seq ?_ | refine AW.block ?_ | ((first | refine AW.region tab_ok ?_ | refine AW.cond ?_ | refine AW.skip ?_ | refine AW.ret ?_ | refine AW.exit ?_); conv => whnf) | ((first | refine And.intro (@rfl Val _) ?_ | refine And.intro (by decide) ?_ | refine cs (fun _ => ?_) (fun _ => ?_)) <;> conv => whnf)
  refine AW.loop (ι := IdxI ks) (fun x => ⟨21, [(2, .c (.d (.int .i64 x.i))), (1, .c (.ptr 0 0))], [.var [.d (.int .i8 k), .d (.wsl false (Ty.rowsW ks))]], []⟩)
    (fun x => ks.length - x.i) ⟨0, Nat.zero_le _⟩ 1 (fun _ => rfl) (Nat.le_of_ble_eq_true rfl) ⟨⟨rfl, rfl, trivial⟩, rfl, rfl, ⟨[], rfl⟩, rfl⟩ (fun x => ?_)
  obtain ⟨i, hi⟩ := x
  repeat' first | refine AW.seq ?_ | refine AW.block ?_ | ((first | refine AW.region tab_ok ?_ | refine AW.cond ?_ | refine AW.skip ?_ | refine AW.ret ?_ | refine AW.exit ?_); conv => whnf) | ((first | refine And.intro (@rfl Val _) ?_ | refine And.intro (by decide) ?_ | refine cs (fun _ => ?_) (fun _ => ?_)) <;> conv => whnf)
  · rename_i g
    have g := of_decide_eq_true g
    rw [tyrowsW_len] at g
    simp only at g
    have f1 : (0 : Int) ≤ (i : Int) ∧ (i : Int) < ((Ty.rowsW ks).length : Nat) := by rw [tyrowsW_len]; omega
    refine ⟨f1, fun row hrow => ?_⟩
    obtain ⟨⟨xk, xs⟩, ht, rfl⟩ := tyrowsW_get ks i row (by simpa using hrow)
    have hm := List.mem_of_getElem? ht
    have ci := ih _ hm (hks _ hm)
    have c0 := spoilTy0_call 77
    conv => whnf
    have fin : ∀ a b : Int, a = b → AV.d (DV.int .i64 a) = AV.d (DV.int .i64 b) := fun _ _ h => by rw [h]
    have hw : IntKind.i64.wrap ((i : Int) + 1) = ((i + 1 : Nat) : Int) := by rw [wrap64 (x := (i : Int) + 1) (by omega) (by omega)]; omega
    refine ⟨?_, ?_⟩ <;> conv => whnf
    · skip
      repeat' first | ((refine And.intro f1 fun row hrow => ?_; conv => whnf)) | refine AW.seq ?_ | refine AW.block ?_ | ((first | refine AW.region tab_ok ?_ | refine AW.cond ?_ | refine AW.skip ?_ | refine AW.ret ?_ | refine AW.exit ?_); conv => whnf) | (refine (ci).mono ?_; rintro _ _ ⟨rfl, rfl⟩; conv => whnf) | ((first | refine And.intro (@rfl Val _) ?_ | refine And.intro (by decide) ?_ | refine cs (fun _ => ?_) (fun _ => ?_)) <;> conv => whnf)
      rw [hw]
      exact ⟨⟨i + 1, by omega⟩, ⟨⟨rfl, rfl, trivial⟩, rfl, rfl, ⟨[], rfl⟩, rfl⟩, show ks.length - (i + 1) < ks.length - i by omega⟩
    · skip
      repeat' first | ((refine And.intro f1 fun row hrow => ?_; conv => whnf)) | refine AW.seq ?_ | refine AW.block ?_ | ((first | refine AW.region tab_ok ?_ | refine AW.cond ?_ | refine AW.skip ?_ | refine AW.ret ?_ | refine AW.exit ?_); conv => whnf) | (refine (c0).mono ?_; rintro _ _ ⟨rfl, rfl⟩; conv => whnf) | ((first | refine And.intro (@rfl Val _) ?_ | refine And.intro (by decide) ?_ | refine cs (fun _ => ?_) (fun _ => ?_)) <;> conv => whnf)
      rw [hw]
      exact ⟨⟨i + 1, by omega⟩, ⟨⟨rfl, rfl, trivial⟩, rfl, rfl, ⟨[], rfl⟩, rfl⟩, show ks.length - (i + 1) < ks.length - i by omega⟩
  · exact ⟨rfl, rfl⟩
set_option maxRecDepth 10000 in
theorem spoilTm0_call (k : Int) (name arg : ByteArray) (num tk uk label place : Int) : ACall Tryz.prog 12 [.agg [.d (.int .i8 k), .d (.str name), .d (.str arg), .d (.int .i64 num), .d (.int .i8 tk), .d (.wsl false []), .d (.int .i8 uk), .d (.wsl false []), .d (.int .i64 label), .d (.int .i64 place), .d (.wsl true [])]] [] (fun o σ => o = .ret (.tup []) ∧ σ = []) := by
  have c0 := spoilTy0_call tk
  have c1 := spoilTy0_call uk
  refine ACall.body tab_ok (ρ := 0) (N := 27) Tryz.func12 rfl rfl rfl rfl rfl ?_
  repeat' first | ((refine AW.rounds 2 ?_; conv => whnf)) | refine AW.seq ?_ | refine AW.block ?_ | ((first | refine AW.region tab_ok ?_ | refine AW.cond ?_ | refine AW.skip ?_ | refine AW.ret ?_ | refine AW.exit ?_); conv => whnf) | ((first | refine (c0).mono ?_ | refine (c1).mono ?_); rintro _ _ ⟨rfl, rfl⟩; conv => whnf) | ((first | refine And.intro (@rfl Val _) ?_ | refine And.intro (by decide) ?_ | refine cs (fun _ => ?_) (fun _ => ?_)) <;> conv => whnf)
  all_goals exact ⟨rfl, rfl⟩
set_option maxRecDepth 10000 in
theorem spoilTm_call (t : Tm) : TmOk t → ACall Tryz.prog 12 [.agg (t.cellsW.map .d)] [] (fun o σ => o = .ret (.tup []) ∧ σ = []) := by
  induction t using Tm.ind with
  | _ k name arg num tk tks uk uks label place ks ih =>
  rintro (⟨hT, hU, hlen, hks⟩)
  have c1 := spoilTy_call _ hT
  have c2 := spoilTy_call _ hU
  refine ACall.body tab_ok (ρ := 0) (N := 27) Tryz.func12 rfl rfl rfl rfl rfl ?_
  repeat' first | refine AW.seq ?_ | refine AW.block ?_ | ((first | refine AW.region tab_ok ?_ | refine AW.cond ?_ | refine AW.skip ?_ | refine AW.ret ?_ | refine AW.exit ?_); conv => whnf) | ((first | refine (c1).mono ?_ | refine (c2).mono ?_); rintro _ _ ⟨rfl, rfl⟩; conv => whnf) | ((first | refine And.intro (@rfl Val _) ?_ | refine And.intro (by decide) ?_ | refine cs (fun _ => ?_) (fun _ => ?_)) <;> conv => whnf)
  refine AW.loop (ι := IdxI ks) (fun x => ⟨27, [(2, .c (.d (.int .i64 x.i))), (1, .c (.ptr 0 0))], [.var ((Tm.node k name arg num tk tks uk uks label place ks).cellsW.map .d)], []⟩)
    (fun x => ks.length - x.i) ⟨0, Nat.zero_le _⟩ 1 (fun _ => rfl) (Nat.le_of_ble_eq_true rfl) ⟨⟨rfl, rfl, trivial⟩, rfl, rfl, ⟨[], rfl⟩, rfl⟩ (fun x => ?_)
  obtain ⟨i, hi⟩ := x
  repeat' first | refine AW.seq ?_ | refine AW.block ?_ | ((first | refine AW.region tab_ok ?_ | refine AW.cond ?_ | refine AW.skip ?_ | refine AW.ret ?_ | refine AW.exit ?_); conv => whnf) | ((first | refine And.intro (@rfl Val _) ?_ | refine And.intro (by decide) ?_ | refine cs (fun _ => ?_) (fun _ => ?_)) <;> conv => whnf)
  · rename_i g
    have g := of_decide_eq_true g
    rw [tmrowsW_len] at g
    simp only at g
    have f1 : (0 : Int) ≤ (i : Int) ∧ (i : Int) < ((Tm.rowsW ks).length : Nat) := by rw [tmrowsW_len]; omega
    refine ⟨f1, fun row hrow => ?_⟩
    obtain ⟨x, ht, rfl⟩ := tmrowsW_get ks i row (by simpa using hrow)
    have hm := List.mem_of_getElem? ht
    have ci := ih _ hm (hks _ hm)
    have c0 := spoilTm0_call 77 ⟨#[]⟩ ⟨#[]⟩ 0 0 0 0 0
    clear c1 c2 ih
    obtain ⟨kx, namex, argx, numx, tkx, tksx, ukx, uksx, labelx, placex, ksx⟩ := x
    conv => whnf
    have hw : IntKind.i64.wrap ((i : Int) + 1) = ((i + 1 : Nat) : Int) := by rw [wrap64 (x := (i : Int) + 1) (by omega) (by omega)]; omega
    refine ⟨?_, ?_⟩ <;> conv => whnf
    · skip
      repeat' first | ((refine And.intro f1 fun row hrow => ?_; conv => whnf)) | refine AW.seq ?_ | refine AW.block ?_ | ((first | refine AW.region tab_ok ?_ | refine AW.cond ?_ | refine AW.skip ?_ | refine AW.ret ?_ | refine AW.exit ?_); conv => whnf) | (refine (ci).mono ?_; rintro _ _ ⟨rfl, rfl⟩; conv => whnf) | ((first | refine And.intro (@rfl Val _) ?_ | refine And.intro (by decide) ?_ | refine cs (fun _ => ?_) (fun _ => ?_)) <;> conv => whnf)
      rw [hw]
      exact ⟨⟨i + 1, by omega⟩, ⟨⟨rfl, rfl, trivial⟩, rfl, rfl, ⟨[], rfl⟩, rfl⟩, show ks.length - (i + 1) < ks.length - i by omega⟩
    · skip
      repeat' first | ((refine And.intro f1 fun row hrow => ?_; conv => whnf)) | refine AW.seq ?_ | refine AW.block ?_ | ((first | refine AW.region tab_ok ?_ | refine AW.cond ?_ | refine AW.skip ?_ | refine AW.ret ?_ | refine AW.exit ?_); conv => whnf) | (refine (c0).mono ?_; rintro _ _ ⟨rfl, rfl⟩; conv => whnf) | ((first | refine And.intro (@rfl Val _) ?_ | refine And.intro (by decide) ?_ | refine cs (fun _ => ?_) (fun _ => ?_)) <;> conv => whnf)
      rw [hw]
      exact ⟨⟨i + 1, by omega⟩, ⟨⟨rfl, rfl, trivial⟩, rfl, rfl, ⟨[], rfl⟩, rfl⟩, show ks.length - (i + 1) < ks.length - i by omega⟩
  · exact ⟨rfl, rfl⟩
end Go.Proofs.YtmaokphbfjpodaaGreatDoor.E

/- Types and terms under other tags. No conditions. -/
set_option linter.unusedVariables false
set_option linter.unusedSimpArgs false
namespace Go.Proofs.YtmaokphbfjpodaaGreatDoor.E
open Go

inductive RtC (c : Nat) : List DV → List DV → Prop where
  | nil : RtC c [] []
  | cons {x y : DV} {l m : List DV} (h : Rt c x y) (t : RtC c l m) : RtC c (x :: l) (y :: m)
inductive RtR (c : Nat) : List (List DV) → List (List DV) → Prop where
  | nil : RtR c [] []
  | cons {x y : List DV} {l m : List (List DV)} (h : RtC c x y) (t : RtR c l m) : RtR c (x :: l) (y :: m)
theorem RtC.get {c : Nat} {l m : List DV} (h : RtC c l m) : l.length = m.length ∧ ∀ (i : Nat) x y, l[i]? = some x → m[i]? = some y → Rt c x y := by
  induction h with
  | nil => exact ⟨rfl, fun i x y h => by simp at h⟩
  | cons h t ih => exact ⟨by simp [ih.1], fun i x y hx hy => by
      cases i with
      | zero => simp at hx hy; subst hx; subst hy; exact h
      | succ i => exact ih.2 i x y (by simpa using hx) (by simpa using hy)⟩
theorem RtR.get {c : Nat} {l m : List (List DV)} (h : RtR c l m) : l.length = m.length ∧ ∀ (j : Nat) x y, l[j]? = some x → m[j]? = some y → RtC c x y := by
  induction h with
  | nil => exact ⟨rfl, fun i x y h => by simp at h⟩
  | cons h t ih => exact ⟨by simp [ih.1], fun i x y hx hy => by
      cases i with
      | zero => simp at hx hy; subst hx; subst hy; exact h
      | succ i => exact ih.2 i x y (by simpa using hx) (by simpa using hy)⟩
theorem RtR.sl {c r sz : Nat} {l m : List (List DV)} (h : RtR c l m) : Rt c (.sl r sz l) (.sl c sz m) :=
  .sl r sz l m h.get.1 (fun j x y hx hy => (h.get.2 j x y hx hy).get.1) (fun j i x y u v hx hy hu hv => (h.get.2 j x y hx hy).get.2 i u v hu hv)
theorem RtC.rp {c r : Nat} {l m : List DV} (h : RtC c l m) : Rt c (.rp r l) (.rp c m) := .rp r l m h.get.1 h.get.2
theorem RtC.agg {c : Nat} {l m : List DV} (h : RtC c l m) : RtV c (.agg (l.map .d)) (.agg (m.map .d)) := .agg l m h.get.1 h.get.2
theorem RtC.append {c : Nat} {l m l' m' : List DV} (h : RtC c l m) (g : RtC c l' m') : RtC c (l ++ l') (m ++ m') := by
  induction h with
  | nil => exact g
  | cons h t ih => exact .cons h ih
theorem RtV.bool {c : Nat} (b : Bool) : RtV c (.c (.d (.bool b))) (.c (.d (.bool b))) := .c _ _ (.bool b)
theorem RtV.int {c : Nat} (k : IntKind) (n : Int) : RtV c (.c (.d (.int k n))) (.c (.d (.int k n))) := .c _ _ (.int k n)
theorem RtV.str {c : Nat} (s : ByteArray) : RtV c (.c (.d (.str s))) (.c (.d (.str s))) := .c _ _ (.str s)
inductive RtVL (c : Nat) : List Val → List Val → Prop where
  | nil : RtVL c [] []
  | cons {x y : Val} {l m : List Val} (h : RtV c x y) (t : RtVL c l m) : RtVL c (x :: l) (y :: m)
theorem RtVL.tup {c : Nat} {l m : List Val} (h : RtVL c l m) : RtV c (.tup l) (.tup m) := by
  have : l.length = m.length ∧ ∀ (i : Nat) x y, l[i]? = some x → m[i]? = some y → RtV c x y := by
    induction h with
    | nil => exact ⟨rfl, fun i x y h => by simp at h⟩
    | cons h t ih => exact ⟨by simp [ih.1], fun i x y hx hy => by
        cases i with
        | zero => simp at hx hy; subst hx; subst hy; exact h
        | succ i => exact ih.2 i x y (by simpa using hx) (by simpa using hy)⟩
  exact .tup l m this.1 this.2

mutual
def Ty.cellsR (r : Nat) : Ty → List DV
  | .node k ks => [.int .i8 k, .sl r 2 (Ty.rowsR r ks)]
def Ty.rowsR (r : Nat) : List Ty → List (List DV)
  | [] => []
  | t :: l => Ty.cellsR r t :: Ty.rowsR r l
end
def Ty.valR (r : Nat) (t : Ty) : Val := .agg ((t.cellsR r).map .d)
mutual
/-- A term's cells: p for its types, q for its kids. -/
def Tm.cellsR (p q : Nat) : Tm → List DV
  | .node k name arg num tk tks uk uks label place ks => [.int .i8 k, .str name, .str arg, .int .i64 num, .int .i8 tk, .sl p 2 (Ty.rowsR p tks), .int .i8 uk, .sl p 2 (Ty.rowsR p uks), .int .i64 label, .int .i64 place, .sl q 11 (Tm.rowsR p q ks)]
def Tm.rowsR (p q : Nat) : List Tm → List (List DV)
  | [] => []
  | t :: l => Tm.cellsR p q t :: Tm.rowsR p q l
end
def Tm.valR (p q : Nat) (t : Tm) : Val := .agg ((t.cellsR p q).map .d)
theorem tyrowsR_len (r : Nat) : ∀ l : List Ty, (Ty.rowsR r l).length = l.length
  | [] => rfl
  | t :: l => by simp [Ty.rowsR, tyrowsR_len r l]
theorem tmrowsR_len (p q : Nat) : ∀ l : List Tm, (Tm.rowsR p q l).length = l.length
  | [] => rfl
  | t :: l => by simp [Tm.rowsR, tmrowsR_len p q l]
mutual
theorem ty_R0 : (t : Ty) → t.cellsR 0 = t.cells
  | .node k ks => by rw [Ty.cellsR, tys_R0 ks]; rfl
theorem tys_R0 : (l : List Ty) → Ty.rowsR 0 l = Ty.rows l
  | [] => rfl
  | t :: l => by rw [Ty.rowsR, Ty.rows, ty_R0 t, tys_R0 l]
end
mutual
theorem tm_R0 : (t : Tm) → t.cellsR 0 0 = t.cells
  | .node k name arg num tk tks uk uks label place ks => by rw [Tm.cellsR, tys_R0, tys_R0, tms_R0 ks]; rfl
theorem tms_R0 : (l : List Tm) → Tm.rowsR 0 0 l = Tm.rows l
  | [] => rfl
  | t :: l => by rw [Tm.rowsR, Tm.rows, tm_R0 t, tms_R0 l]
end
mutual
theorem ty_rt (r c : Nat) : (t : Ty) → RtC c (t.cellsR r) (t.cellsR c)
  | .node k ks => by rw [Ty.cellsR, Ty.cellsR]; exact .cons (.int _ _) (.cons (tys_rt r c ks).sl .nil)
theorem tys_rt (r c : Nat) : (l : List Ty) → RtR c (Ty.rowsR r l) (Ty.rowsR c l)
  | [] => by rw [Ty.rowsR, Ty.rowsR]; exact .nil
  | t :: l => by rw [Ty.rowsR, Ty.rowsR]; exact .cons (ty_rt r c t) (tys_rt r c l)
end
mutual
theorem tm_rt (p q c : Nat) : (t : Tm) → RtC c (t.cellsR p q) (t.cellsR c c)
  | .node k name arg num tk tks uk uks label place ks => by
    rw [Tm.cellsR, Tm.cellsR]
    exact .cons (.int _ _) (.cons (.str _) (.cons (.str _) (.cons (.int _ _) (.cons (.int _ _) (.cons (tys_rt p c tks).sl (.cons (.int _ _) (.cons (tys_rt p c uks).sl (.cons (.int _ _) (.cons (.int _ _) (.cons (tms_rt p q c ks).sl .nil))))))))))
theorem tms_rt (p q c : Nat) : (l : List Tm) → RtR c (Tm.rowsR p q l) (Tm.rowsR c c l)
  | [] => by rw [Tm.rowsR, Tm.rowsR]; exact .nil
  | t :: l => by rw [Tm.rowsR, Tm.rowsR]; exact .cons (tm_rt p q c t) (tms_rt p q c l)
end
theorem ty_rtV (r c : Nat) (t : Ty) : RtV c (t.valR r) (t.valR c) := (ty_rt r c t).agg
theorem tm_rtV (p q c : Nat) (t : Tm) : RtV c (t.valR p q) (t.valR c c) := (tm_rt p q c t).agg
theorem ty_V0 (t : Ty) : t.valR 0 = t.val := by rw [Ty.valR, ty_R0]; rfl
theorem tm_V0 (t : Tm) : t.valR 0 0 = t.val := by rw [Tm.valR, tm_R0]; rfl

/-! ### From read only to written over -/
theorem th_rows {c : Bool} : ∀ {rows rows' : List (List DV)}, rows.length = rows'.length → (∀ (j : Nat) row row', rows[j]? = some row → rows'[j]? = some row' → row.length = row'.length ∧ ∀ (i : Nat) x y, row[i]? = some x → row'[i]? = some y → Th x y) → Th (.sl (if c then 4 else 1) (wsz c) rows) (.wsl c rows') := fun hl h =>
  .w c _ _ hl (fun j row row' h1 h2 => (h j row row' h1 h2).1) (fun j i row row' x y h1 h2 h3 h4 => (h j row row' h1 h2).2 i x y h3 h4)
theorem th_int (k : IntKind) (n : Int) : Th (.int k n) (.int k n) := .keep0 _ (.int k n)
theorem th_str (s : ByteArray) : Th (.str s) (.str s) := .keep0 _ (.str s)
def ThCells (l m : List DV) : Prop := l.length = m.length ∧ ∀ (i : Nat) x y, l[i]? = some x → m[i]? = some y → Th x y
theorem ThCells.nil : ThCells [] [] := ⟨rfl, fun i x y h => by simp at h⟩
theorem ThCells.cons {x y : DV} {l m : List DV} (h : Th x y) (t : ThCells l m) : ThCells (x :: l) (y :: m) := ⟨by simp [t.1], fun i u v hu hv => by
  cases i with
  | zero => simp at hu hv; subst hu; subst hv; exact h
  | succ i => exact t.2 i u v (by simpa using hu) (by simpa using hv)⟩
mutual
theorem ty_th : (t : Ty) → ThCells (t.cellsR 1) t.cellsW
  | .node k ks => by
    rw [Ty.cellsR, Ty.cellsW]
    exact .cons (th_int _ _) (.cons (th_rows (c := false) (by rw [tyrowsR_len, tyrowsW_len]) (tys_th ks)) .nil)
theorem tys_th : (l : List Ty) → ∀ (j : Nat) row row', (Ty.rowsR 1 l)[j]? = some row → (Ty.rowsW l)[j]? = some row' → ThCells row row'
  | [] => fun j row row' h => by rw [Ty.rowsR] at h; simp at h
  | t :: l => fun j row row' h h' => by
    rw [Ty.rowsR] at h
    rw [Ty.rowsW] at h'
    match j with
    | 0 => simp at h h'; subst h; subst h'; exact ty_th t
    | j + 1 => exact tys_th l j row row' (by simpa using h) (by simpa using h')
end
mutual
theorem tm_th : (t : Tm) → ThCells (t.cellsR 1 4) t.cellsW
  | .node k name arg num tk tks uk uks label place ks => by
    rw [Tm.cellsR, Tm.cellsW]
    exact .cons (th_int _ _) (.cons (th_str _) (.cons (th_str _) (.cons (th_int _ _) (.cons (th_int _ _) (.cons (th_rows (c := false) (by rw [tyrowsR_len, tyrowsW_len]) (tys_th tks)) (.cons (th_int _ _) (.cons (th_rows (c := false) (by rw [tyrowsR_len, tyrowsW_len]) (tys_th uks))
      (.cons (th_int _ _) (.cons (th_int _ _) (.cons (th_rows (c := true) (by rw [tmrowsR_len, tmrowsW_len]) (tms_th ks)) .nil))))))))))
theorem tms_th : (l : List Tm) → ∀ (j : Nat) row row', (Tm.rowsR 1 4 l)[j]? = some row → (Tm.rowsW l)[j]? = some row' → ThCells row row'
  | [] => fun j row row' h => by rw [Tm.rowsR] at h; simp at h
  | t :: l => fun j row row' h h' => by
    rw [Tm.rowsR] at h
    rw [Tm.rowsW] at h'
    match j with
    | 0 => simp at h h'; subst h; subst h'; exact tm_th t
    | j + 1 => exact tms_th l j row row' (by simpa using h) (by simpa using h')
end
end Go.Proofs.YtmaokphbfjpodaaGreatDoor.E
