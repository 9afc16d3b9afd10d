/- Texts, merged: Bk7, Pm3, Bk8, Pm4, Kw3, TyOpen, Glue, TmOpen. No conditions. -/
import Derived.Test.YtmaokphbfjpodaaGreatDoorGenX15
import Derived.Test.YtmaokphbfjpodaaGreatDoorGenX9
import Derived.Test.YtmaokphbfjpodaaGreatDoorGenX4
import Derived.Test.YtmaokphbfjpodaaGreatDoorGenX2
import Derived.Deep.Slices
import Derived.WideKeyArgs
import Derived.ChangeArms
import Derived.ChangeOld
import Derived.Below
import Derived.WalkKit
import Derived.ProofKit
import Derived.OpenShut
import Derived.SizedLaws
/- Only what counts of a term is looked at, and told; what is told is read as it was. No conditions. -/
set_option linter.unusedVariables false
set_option linter.unusedSimpArgs false
namespace Go.Proofs.YtmaokphbfjpodaaGreatDoor.E
open Go

theorem clL_len : ∀ l : List Tm, (clL l).length = l.length
  | [] => rfl
  | _ :: l => by simp [clL, clL_len l]
mutual
theorem tmN_cl : ∀ t : Tm, tmN (cl t) = tmN t
  | .node k name arg num tk tks uk uks label place ks => by
    have h := tmNL_cl ks
    simp only [cl, tmN, h]
    cases typeK k <;> cases toK k <;> rfl
theorem tmNL_cl : ∀ l : List Tm, tmNL (clL l) = tmNL l
  | [] => rfl
  | t :: l => by simp only [clL, tmNL, tmN_cl t, tmNL_cl l]
end
mutual
theorem tmD_cl : ∀ (t : Tm) (m : Nat), tmD (cl t) m = tmD t m
  | .node k name arg num tk tks uk uks label place ks, m => by
    have h := tmDL_cl ks
    simp only [cl, tmD, h]
    cases typeK k <;> cases toK k <;> rfl
theorem tmDL_cl : ∀ (l : List Tm) (m : Nat), tmDL (clL l) m = tmDL l m
  | [], _ => rfl
  | t :: l, m => by simp only [clL, tmDL, tmD_cl t, tmDL_cl l]
end
mutual
theorem tmright_cl : ∀ t : Tm, tmright (cl t) = tmright t
  | .node k name arg num tk tks uk uks label place ks => by
    have h := tmrights_cl ks
    simp only [cl, tmright, ownRight, h, clL_len]
    by_cases h15 : k = 15
    · subst h15; rfl
    · by_cases h17 : k = 17
      · subst h17; rfl
      · simp only [h15, h17, decide_false, Bool.or_false]
        cases typeK k <;> cases toK k <;> cases nameK k <;> cases argK k <;> rfl
theorem tmrights_cl : ∀ l : List Tm, tmrights (clL l) = tmrights l
  | [] => rfl
  | t :: l => by simp only [clL, tmrights, tmright_cl t, tmrights_cl l]
end
mutual
theorem tmBad_cl : ∀ t : Tm, tmBad (cl t) = tmBad t
  | .node k name arg num tk tks uk uks label place ks => by
    have h := tmBads_cl ks
    simp only [cl, tmBad, h]
    by_cases h1 : k = 1
    · subst h1; rfl
    · simp [h1]
theorem tmBads_cl : ∀ l : List Tm, tmBads (clL l) = tmBads l
  | [] => rfl
  | t :: l => by simp only [clL, tmBads, tmBad_cl t, tmBads_cl l]
end
theorem tmcheck_cl (t : Tm) : tmcheck (cl t) = tmcheck t := by
  unfold tmcheck
  rw [tmN_cl, tmD_cl, tmright_cl]
theorem tmDepth_cl (t : Tm) : tmDepth (cl t) = tmDepth t := by
  unfold tmDepth
  rw [tmN_cl, tmD_cl]
theorem tmS_cl (t : Tm) : tmS (cl t) = tmS t := by
  obtain ⟨k, name, arg, num, tk, tks, uk, uks, label, place, ks⟩ := t
  simp only [cl, tmS]
  by_cases h1 : k = 1
  · subst h1; rfl
  · by_cases h15 : k = 15
    · subst h15; rfl
    · simp [h1, h15]
theorem tmW_cl (t : Tm) : tmright t = true → tmBad t = false → tmW (cl t) = tmW t := by
  induction t using Tm.ind with
  | _ k name arg num tk tks uk uks label place ks ih =>
  intro hr hb
  obtain ⟨b1, b2, b3⟩ := tmBad_own hb
  have hv := tmright_valid hr
  have hL : tmWL (clL ks) = tmWL ks := by
    have : ∀ l : List Tm, (∀ t ∈ l, tmW (cl t) = tmW t) → tmWL (clL l) = tmWL l := fun l => by
      induction l with
      | nil => intro _; rfl
      | cons x l ihl => intro h; simp only [clL, tmWL, tmS_cl, h x (by simp), ihl fun t ht => h t (by simp [ht])]
    exact this ks fun t ht => ih t ht (tmright_kid hr ht) (tmBads_mem' b3 ht)
  have hS := tmS_cl (.node k name arg num tk tks uk uks label place ks)
  have e : tmW (.node k name arg num tk tks uk uks label place ks) = tmJ k name arg num (tmS (.node k name arg num tk tks uk uks label place ks)) (bw (tyO (.node tk tks))) (bw (tyO (.node uk uks))) (tmWL ks) := rfl
  have e2 : tmW (cl (.node k name arg num tk tks uk uks label place ks)) = tmJ k (if nameK k || decide (k = 15) then name else s0) (if argK k then arg else s0) (if k = 1 then num else 0) (tmS (cl (.node k name arg num tk tks uk uks label place ks))) (bw (tyO (.node (if typeK k then tk else 0) (if typeK k then tks else [])))) (bw (tyO (.node (if toK k then uk else 0) (if toK k then uks else [])))) (tmWL (clL ks)) := rfl
  rw [e, e2, hL, hS]
  generalize tmS (.node k name arg num tk tks uk uks label place ks) = s
  clear e e2 hL hS ih hr hb b2 b3
  rcases kinds k hv with rfl | rfl | rfl | rfl | rfl | rfl | rfl | rfl | rfl | rfl | rfl | rfl | rfl | rfl | rfl | rfl | rfl | rfl
  all_goals first | rfl | exact absurd rfl b1
theorem tmA_cl (t : Tm) (hr : tmright t = true) (hb : tmBad t = false) (least : Int) : tmA least (cl t) = tmA least t := by
  unfold tmA
  rw [tmS_cl, tmW_cl t hr hb]
/-- What is told of a term hangs on what counts alone. -/
theorem told_cl (t : Tm) : toldF (cl t) = toldF t := by
  unfold toldF
  rw [tmcheck_cl, tmBad_cl]
  split
  · rename_i h
    split
    · rfl
    · rename_i hb
      rw [tmA_cl t (tmcheck_ok h).2 (by simpa using hb)]
  · rfl
theorem tmsame_self (t : Tm) : tmright t = true → tmsame t t = true := by
  induction t using Tm.ind with
  | _ k name arg num tk tks uk uks label place ks ih =>
  intro h
  obtain ⟨o1, o2⟩ := tmright_own h
  have s1 : tmsames ks ks = true := (tmsames_all ks ks rfl).2 fun j x y hx hy => by
    rw [hx] at hy; cases hy
    exact ih x (List.mem_of_getElem? hx) (tmright_kid h (List.mem_of_getElem? hx))
  simp only [tmsame, ownSame, s1]
  cases h1 : typeK k <;> cases h2 : toK k <;> simp_all [sameS_self]
mutual
theorem tmsame_clL : ∀ (a b : Tm), tmsame (cl a) b = tmsame a b
  | .node k name arg num tk tks uk uks label place ks, .node k' name' arg' num' tk' tks' uk' uks' label' place' ks' => by
    have h := tmsames_clL ks ks'
    simp only [cl, tmsame, ownSame, h]
    by_cases h1 : k = 1
    · subst h1; rfl
    · by_cases h15 : k = 15
      · subst h15; rfl
      · by_cases h17 : k = 17
        · subst h17; rfl
        · simp only [h1, h15, h17, decide_false, Bool.or_false]
          cases typeK k <;> cases toK k <;> cases nameK k <;> cases argK k <;> rfl
theorem tmsames_clL : ∀ (l l' : List Tm), tmsames (clL l) l' = tmsames l l'
  | [], _ => rfl
  | _ :: _, [] => rfl
  | a :: l, b :: l' => by simp only [clL, tmsames, tmsame_clL a b, tmsames_clL l l']
end
mutual
theorem tmsame_clR : ∀ (a b : Tm), tmsame a (cl b) = tmsame a b
  | .node k name arg num tk tks uk uks label place ks, .node k' name' arg' num' tk' tks' uk' uks' label' place' ks' => by
    have h := tmsames_clR ks ks'
    simp only [cl, tmsame, ownSame, h]
    by_cases e : k = k'
    · subst e
      by_cases h1 : k = 1
      · subst h1; rfl
      · by_cases h15 : k = 15
        · subst h15; rfl
        · by_cases h17 : k = 17
          · subst h17; rfl
          · simp only [h1, h15, h17, decide_false, Bool.or_false]
            cases typeK k <;> cases toK k <;> cases nameK k <;> cases argK k <;> rfl
    · simp [e]
theorem tmsames_clR : ∀ (l l' : List Tm), tmsames l (clL l') = tmsames l l'
  | [], _ => rfl
  | _ :: _, [] => rfl
  | a :: l, b :: l' => by simp only [clL, tmsames, tmsame_clR a b, tmsames_clR l l']
end
/-- Terms of which the same counts are the same. -/
theorem sameT_cl {a b : Tm} (h : tmcheck a = 0) (e : cl b = cl a) : sameT a b = true := by
  have hb : tmcheck b = 0 := by rw [← tmcheck_cl, e, tmcheck_cl, h]
  have hs : tmsame a b = true := by rw [← tmsame_clL, ← tmsame_clR, e, tmsame_clL, tmsame_clR]; exact tmsame_self a (tmcheck_ok h).2
  unfold sameT
  rw [h, hb, hs]
  rfl
/-- What is told is read as it was, but for what does not count. -/
theorem read_back {t : Tm} {s : ByteArray} (hn : tmInR t) (h : toldF t = (s, 0)) : s = bw (joinW (tmA (-1) t)) ∧ ∃ u, readF s = .ok u ∧ cl u = cl t := by
  unfold toldF at h
  split at h
  · rename_i hc
    split at h
    · (have := congrArg Prod.snd h; simp at this)
    · rename_i hb
      split at h
      · (have := congrArg Prod.snd h; simp at this)
      · rename_i hlen
        have hb : tmBad t = false := by simpa using hb
        have hr := (tmcheck_ok hc).2
        obtain rfl : bw (joinW (tmA (-1) t)) = s := congrArg Prod.fst h
        refine ⟨rfl, ?_⟩
        have htx : Tx (joinW (tmA (-1) t)) (tmAT (-1) t) := by
          have := (pw_A (tm_pw t hr hn hb) (-1)).tx [] [] sep_nil .nil
          simpa using this
        have hsz : (bw (joinW (tmA (-1) t))).size = (joinW (tmA (-1) t)).length := by simp [bw_size]
        obtain ⟨ws, e1, e2⟩ := tx_scan htx ((bw (joinW (tmA (-1) t))).size + 1) 0 (by omega)
        have hscan : scanF (bw (joinW (tmA (-1) t))) = .ok (ws ++ [⟨0, s0, 0, (bw (joinW (tmA (-1) t))).size⟩]) := by
          unfold scanF
          rw [if_neg (by rw [hsz]; omega)]
          rw [show (bw (joinW (tmA (-1) t))).data.toList = joinW (tmA (-1) t) from rfl, e1]
        obtain ⟨u, j, r1, r2, r3⟩ := words_rd (l := ws ++ [⟨0, s0, 0, (bw (joinW (tmA (-1) t))).size⟩]) (e := ⟨0, s0, 0⟩) hr hn hb (by
          show ((ws ++ [_]).drop 0).map Wd.tk = _
          rw [List.drop_zero, List.map_append, e2]; rfl) rfl
        refine ⟨u, ?_, r2⟩
        have hN : tmN u = tmN t := by rw [← tmN_cl u, r2, tmN_cl]
        have hD : tmDepth u = tmDepth t := by rw [← tmDepth_cl u, r2, tmDepth_cl]
        have hlim : ¬ tmN t > 8192 ∧ ¬ tmDepth t > 200 := by
          rw [tmcheck_eq] at hc
          constructor
          · intro q; rw [if_pos q] at hc; cases hc
          · intro q
            by_cases q2 : tmN t > 8192
            · rw [if_pos q2] at hc; cases hc
            · rw [if_neg q2, if_pos q] at hc; cases hc
        obtain ⟨w, w1, w2, _, _⟩ := toksW_cons r3
        have hw : wordsP (ws ++ [⟨0, s0, 0, (bw (joinW (tmA (-1) t))).size⟩]) = .ok u j := by
          rw [wordsP, r1, bindP_ok, hN, hD, if_neg hlim.1, if_neg hlim.2]
        unfold readF
        rw [hscan]
        simp only
        rw [hw]
        simp only
        rw [w1]
        simp only
        rw [if_pos (show w.kind = 0 from congrArg Tk.kind w2)]
  · rename_i hc
    exact absurd (congrArg Prod.snd h) hc
end Go.Proofs.YtmaokphbfjpodaaGreatDoor.E

/- What the parser takes is a term, in plain Lean. No conditions. -/
set_option linter.unusedVariables false
set_option linter.unusedSimpArgs false
set_option linter.unusedSectionVars false
namespace Go.Proofs.YtmaokphbfjpodaaGreatDoor.E
open Go

def Gd {α : Type} (Q : α → Prop) (p : PR α) : Prop := ∀ x j, p = .ok x j → Q x
/-- Words as the scanner makes them. -/
def WsOk (l : List Wd) : Prop := ∀ w ∈ l, (w.kind = 1 → nameF w.text = true) ∧ (w.kind = 2 → 0 ≤ w.num ∧ w.num ≤ 9223372036854775807)
def Good (t : Tm) : Prop := tmright t = true ∧ tmInR t ∧ tmBad t = false
theorem gd_bad {α : Type} {Q : α → Prop} {e a : Int} {w : ByteArray} : Gd Q (.bad e a w : PR α) := fun x j h => by cases h
theorem gd_wbad {α : Type} {Q : α → Prop} {l : List Wd} {i : Nat} : Gd Q (wbad l i : PR α) := gd_bad
theorem gd_ok {α : Type} {Q : α → Prop} {x : α} {j : Nat} (h : Q x) : Gd Q (.ok x j : PR α) := fun y j h => by cases h; assumption
theorem gd_bind {α β : Type} {P : α → Prop} {Q : β → Prop} {p : PR α} {f : α → Nat → PR β} (h : Gd P p) (hf : ∀ x j, P x → Gd Q (f x j)) : Gd Q (bindP p f) := by
  cases p with
  | ok x j => exact hf x j (h x j rfl)
  | bad e a w => exact gd_bad
theorem gd_ite {α : Type} {Q : α → Prop} {P : Prop} [Decidable P] {a b : PR α} (ha : Gd Q a) (hb : Gd Q b) : Gd Q (if P then a else b) := by
  split
  · exact ha
  · exact hb
theorem tmInRs_all : ∀ {ks : List Tm}, (∀ t ∈ ks, tmInR t) → tmInRs ks
  | [], _ => trivial
  | t :: l, h => ⟨h t (by simp), tmInRs_all fun x hx => h x (by simp [hx])⟩
theorem tmBads_all : ∀ {ks : List Tm}, (∀ t ∈ ks, tmBad t = false) → tmBads ks = false
  | [], _ => rfl
  | t :: l, h => by rw [tmBads, h t (List.mem_cons_self ..), tmBads_all fun x hx => h x (List.mem_cons_of_mem _ hx)]; rfl
theorem good_tn {k : Int} {name arg : ByteArray} {num : Int} {a b : Ty} {p : Int} {ks : List Tm} (h1 : kidsK k = ks.length) (h2 : k ≠ 17) (h3 : nameK k = true → nameF name = true) (h4 : argK k = true → nameF arg = true) (h5 : typeK k = true → tcheck a = 0) (h6 : toK k = true → tcheck b = 0)
    (h7 : k = 15 → opF name = true) (h8 : k = 1 → -9223372036854775808 < num) (h9 : -9223372036854775808 ≤ num ∧ num ≤ 9223372036854775807) (h10 : ∀ t ∈ ks, Good t) : Good (tn k name arg num a b p ks) := by
  obtain ⟨tk, tks⟩ := a
  obtain ⟨uk, uks⟩ := b
  refine ⟨?_, ?_, ?_⟩
  · simp only [tn, tmright, ownRight, Bool.and_eq_true, Bool.or_eq_true, Bool.not_eq_true', decide_eq_true_eq, decide_eq_false_iff_not]
    refine ⟨⟨⟨⟨⟨⟨⟨h1, .inl h2⟩, ?_⟩, ?_⟩, ?_⟩, ?_⟩, ?_⟩, (tmrights_all ks).2 fun t ht => (h10 t ht).1⟩
    · cases hq : nameK k <;> simp_all
    · cases hq : argK k <;> simp_all
    · cases hq : typeK k <;> simp_all
    · cases hq : toK k <;> simp_all
    · by_cases hq : k = 15 <;> simp_all
  · exact ⟨h9, tmInRs_all fun t ht => (h10 t ht).2.1⟩
  · simp only [tn, tmBad, Bool.or_eq_false_iff, Bool.and_eq_false_iff, decide_eq_false_iff_not]
    refine ⟨⟨h2, ?_⟩, tmBads_all fun t ht => (h10 t ht).2.2⟩
    by_cases hq : k = 1
    · exact .inr (by have := h8 hq; omega)
    · exact .inl hq
section
variable {l : List Wd} (hl : WsOk l)
include hl
theorem typP_gd (i : Nat) : Gd (fun a => tcheck a = 0) (typP l i) := by
  unfold typP
  intro x j h
  cases hp : tWhole l (l.length + 1) i with
  | bad e a w => rw [hp] at h; cases h
  | ok a q =>
    rw [hp, bindP_ok] at h
    split at h
    · cases h; assumption
    · cases h
theorem mustP_gd (k : Int) (s : ByteArray) (i : Nat) : Gd (fun _ => True) (mustP l k s i) := fun _ _ _ => trivial
theorem nameP_gd (i : Nat) : Gd (fun x => nameF x = true) (nameP l i) := by
  unfold nameP
  split
  · rename_i w hw
    split
    · rename_i hk
      exact gd_ok ((hl w (List.mem_of_getElem? hw)).1 hk)
    · exact gd_wbad
  · exact gd_wbad
theorem numP_gd (p : Int) (i : Nat) : Gd Good (numP l p i) := by
  unfold numP
  split
  · rename_i w hw
    split
    · rename_i hk
      have h := (hl w (List.mem_of_getElem? hw)).2 hk
      refine gd_ok ?_
      rw [wrap64 (by omega) (by omega)]
      exact good_tn rfl (by decide) (fun h => absurd h (by decide)) (fun h => absurd h (by decide)) (fun h => absurd h (by decide)) (fun h => absurd h (by decide)) (fun h => absurd h (by decide)) (fun _ => by omega) ⟨by omega, by omega⟩ (fun t ht => by simp at ht)
    · exact gd_wbad
  · exact gd_wbad
theorem must4_gd (s : ByteArray) (i : Nat) : Gd (fun _ => True) (mustP l 4 s i) := mustP_gd hl 4 s i
theorem must3_gd (s : ByteArray) (i : Nat) : Gd (fun _ => True) (mustP l 3 s i) := mustP_gd hl 3 s i
theorem annP_gd (i : Nat) : Gd (fun x : ByteArray × Ty => nameF x.1 = true ∧ tcheck x.2 = 0) (annP l i) := by
  unfold annP
  repeat' first | with_reducible exact gd_bad | with_reducible exact gd_wbad | (with_reducible refine gd_ok ?_) | (with_reducible refine gd_bind (must4_gd hl _ _) (fun x j hx => ?_)) | (with_reducible refine gd_bind (must3_gd hl _ _) (fun x j hx => ?_)) | (with_reducible refine gd_bind (nameP_gd hl _) (fun x j hx => ?_)) | (with_reducible refine gd_bind (typP_gd hl _) (fun x j hx => ?_)) | (with_reducible refine gd_bind (numP_gd hl _ _) (fun x j hx => ?_)) | with_reducible exact must4_gd hl _ _ | with_reducible exact must3_gd hl _ _ | with_reducible exact nameP_gd hl _ | with_reducible exact typP_gd hl _ | with_reducible exact numP_gd hl _ _ | (with_reducible refine gd_ite ?_ ?_) | exact ⟨by assumption, by assumption⟩
theorem isLoop_gd : ∀ (n : Nat) (t : Tm) (i : Nat), Good t → Gd Good (isLoop l n t i)
  | 0, t, i, ht => gd_ok ht
  | n + 1, t, i, ht => by
    unfold isLoop
    refine gd_ite (gd_bind (typP_gd hl _) fun a j ha => isLoop_gd n _ _ ?_) (gd_ok ht)
    (apply good_tn <;> first | rfl | decide | (intro h; exact absurd h (by decide)) | (intro _; simp_all; done) | (intro t ht; simp at ht; rcases ht with rfl | rfl | rfl <;> simp_all; done) | (intro t ht; simp at ht; rcases ht with rfl | rfl <;> simp_all; done) | (intro t ht; simp at ht; subst ht; simp_all; done) | (intro t ht; simp at ht; done))
theorem opP_gd {part : Nat → PR Tm} (hp : ∀ i, Gd Good (part i)) {t : Tm} (ht : Good t) {i : Nat} (ho : opF (textW l i) = true) : Gd Good (opP l part t i) := by
  unfold opP
  refine gd_bind (hp _) fun u j hu => gd_ok ?_
  (apply good_tn <;> first | rfl | decide | (intro h; exact absurd h (by decide)) | (intro _; simp_all; done) | (intro t ht; simp at ht; rcases ht with rfl | rfl | rfl <;> simp_all; done) | (intro t ht; simp at ht; rcases ht with rfl | rfl <;> simp_all; done) | (intro t ht; simp at ht; subst ht; simp_all; done) | (intro t ht; simp at ht; done))
theorem isOp_text {ops : List ByteArray} {i : Nat} (h : isOp l ops i = true) (hs : ∀ s ∈ ops, opF s = true) : opF (textW l i) = true := by
  simp only [isOp, List.any_eq_true] at h
  obtain ⟨s, hm, h⟩ := h
  unfold tkW at h
  unfold textW
  cases hg : l[i]? with
  | none => rw [hg] at h; cases h
  | some w =>
    rw [hg] at h
    simp only [Bool.and_eq_true, decide_eq_true_eq] at h
    simp only
    rw [h.2]; exact hs s hm
theorem opLoop_gd {part : Nat → PR Tm} (hp : ∀ i, Gd Good (part i)) {ops : List ByteArray} (hs : ∀ s ∈ ops, opF s = true) : ∀ (n : Nat) (t : Tm) (i : Nat), Good t → Gd Good (opLoop l part ops n t i)
  | 0, t, i, ht => gd_ok ht
  | n + 1, t, i, ht => by
    unfold opLoop
    split
    · rename_i h
      exact gd_bind (opP_gd hl hp ht (isOp_text hl h hs)) fun u j hu => opLoop_gd hp hs n u j hu
    · exact gd_ok ht
theorem pAtom_gd {W : Nat → PR Tm} (hW : ∀ i, Gd Good (W i)) (i : Nat) : Gd Good (pAtom l W i) := by
  unfold pAtom
  split
  · exact gd_wbad
  · rename_i w hw
    have hwk := hl w (List.mem_of_getElem? hw)
    by_cases h2 : w.kind = 2
    · rw [if_pos h2]
      have h := hwk.2 h2
      exact gd_ok (good_tn rfl (by decide) (fun h => absurd h (by decide)) (fun h => absurd h (by decide)) (fun h => absurd h (by decide)) (fun h => absurd h (by decide)) (fun h => absurd h (by decide)) (fun _ => by omega) ⟨by omega, by omega⟩ (fun t ht => by simp at ht))
    · rw [if_neg h2]
      by_cases h1 : w.kind = 1
      · rw [if_pos h1]
        have h := hwk.1 h1
        exact gd_ok (good_tn rfl (by decide) (fun _ => h) (fun h => absurd h (by decide)) (fun h => absurd h (by decide)) (fun h => absurd h (by decide)) (fun h => absurd h (by decide)) (fun h => absurd h (by decide)) (by decide) (fun t ht => by simp at ht))
      · rw [if_neg h1]
        clear hwk h1 h2
        repeat' first | with_reducible exact gd_bad | with_reducible exact gd_wbad | (with_reducible refine gd_ok ?_) | (with_reducible refine gd_bind (hW _) (fun x j hx => ?_)) | (with_reducible refine gd_bind (must4_gd hl _ _) (fun x j hx => ?_)) | (with_reducible refine gd_bind (must3_gd hl _ _) (fun x j hx => ?_)) | (with_reducible refine gd_bind (nameP_gd hl _) (fun x j hx => ?_)) | (with_reducible refine gd_bind (typP_gd hl _) (fun x j hx => ?_)) | (with_reducible refine gd_bind (numP_gd hl _ _) (fun x j hx => ?_)) | with_reducible exact hW _ | with_reducible exact must4_gd hl _ _ | with_reducible exact must3_gd hl _ _ | with_reducible exact nameP_gd hl _ | with_reducible exact typP_gd hl _ | with_reducible exact numP_gd hl _ _ | (with_reducible refine gd_ite ?_ ?_) | assumption | (apply good_tn <;> first | rfl | decide | (intro h; exact absurd h (by decide)) | (intro _; simp_all; done) | (intro t ht; simp at ht; rcases ht with rfl | rfl | rfl <;> simp_all; done) | (intro t ht; simp at ht; rcases ht with rfl | rfl <;> simp_all; done) | (intro t ht; simp at ht; subst ht; simp_all; done) | (intro t ht; simp at ht; done))
theorem appLoop_gd {W : Nat → PR Tm} (hW : ∀ i, Gd Good (W i)) : ∀ (n : Nat) (t : Tm) (i : Nat), Good t → Gd Good (appLoop l W n t i)
  | 0, t, i, ht => gd_ok ht
  | n + 1, t, i, ht => by
    unfold appLoop
    refine gd_ite (gd_bind (hW _) fun a j ha => gd_bind (must4_gd hl _ _) fun _ j _ => appLoop_gd hW n _ _ ?_) (gd_ok ht)
    (apply good_tn <;> first | rfl | decide | (intro h; exact absurd h (by decide)) | (intro _; simp_all; done) | (intro t ht; simp at ht; rcases ht with rfl | rfl | rfl <;> simp_all; done) | (intro t ht; simp at ht; rcases ht with rfl | rfl <;> simp_all; done) | (intro t ht; simp at ht; subst ht; simp_all; done) | (intro t ht; simp at ht; done))
theorem inP_gd {un : Nat → PR Tm} (hu : ∀ i, Gd Good (un i)) (k : Int) (hk : k = 12 ∨ k = 13) (p : Int) (i : Nat) : Gd Good (inP l un k p i) := by
  unfold inP
  rcases hk with rfl | rfl
  all_goals
    repeat' first | with_reducible exact gd_bad | with_reducible exact gd_wbad | (with_reducible refine gd_ok ?_) | (with_reducible refine gd_bind (hu _) (fun x j hx => ?_)) | (with_reducible refine gd_bind (must4_gd hl _ _) (fun x j hx => ?_)) | (with_reducible refine gd_bind (must3_gd hl _ _) (fun x j hx => ?_)) | (with_reducible refine gd_bind (nameP_gd hl _) (fun x j hx => ?_)) | (with_reducible refine gd_bind (typP_gd hl _) (fun x j hx => ?_)) | (with_reducible refine gd_bind (numP_gd hl _ _) (fun x j hx => ?_)) | with_reducible exact hu _ | with_reducible exact must4_gd hl _ _ | with_reducible exact must3_gd hl _ _ | with_reducible exact nameP_gd hl _ | with_reducible exact typP_gd hl _ | with_reducible exact numP_gd hl _ _ | (with_reducible refine gd_ite ?_ ?_) | (apply good_tn <;> first | rfl | decide | (intro h; exact absurd h (by decide)) | (intro _; simp_all; done) | (intro t ht; simp at ht; rcases ht with rfl | rfl | rfl <;> simp_all; done) | (intro t ht; simp at ht; rcases ht with rfl | rfl <;> simp_all; done) | (intro t ht; simp at ht; subst ht; simp_all; done) | (intro t ht; simp at ht; done))
theorem pUn_gd {W : Nat → PR Tm} (hW : ∀ i, Gd Good (W i)) : ∀ (m i : Nat), Gd Good (pUn l W m i)
  | 0, i => gd_wbad
  | m + 1, i => by
    have ih := pUn_gd hW m
    unfold pUn
    refine gd_ite (gd_bind (ih _) fun t j ht => gd_ok ?_) (gd_ite (gd_bind (ih _) fun t j ht => gd_ok ?_) (gd_ite (inP_gd hl ih 12 (.inl rfl) _ _) (gd_ite (inP_gd hl ih 13 (.inr rfl) _ _) (gd_ite (numP_gd hl _ _) (gd_bind (pAtom_gd hl hW _) fun t j ht => appLoop_gd hl hW _ t j ht)))))
    · (apply good_tn <;> first | rfl | decide | (intro h; exact absurd h (by decide)) | (intro _; simp_all; done) | (intro t ht; simp at ht; rcases ht with rfl | rfl | rfl <;> simp_all; done) | (intro t ht; simp at ht; rcases ht with rfl | rfl <;> simp_all; done) | (intro t ht; simp at ht; subst ht; simp_all; done) | (intro t ht; simp at ht; done))
    · (apply good_tn <;> first | rfl | decide | (intro h; exact absurd h (by decide)) | (intro _; simp_all; done) | (intro t ht; simp at ht; rcases ht with rfl | rfl | rfl <;> simp_all; done) | (intro t ht; simp at ht; rcases ht with rfl | rfl <;> simp_all; done) | (intro t ht; simp at ht; subst ht; simp_all; done) | (intro t ht; simp at ht; done))
theorem pIs_gd {W : Nat → PR Tm} (hW : ∀ i, Gd Good (W i)) (i : Nat) : Gd Good (pIs l W i) := by
  have hu : ∀ i, Gd Good (pU l W i) := fun i => pUn_gd hl hW _ i
  have hm : ∀ i, Gd Good (pMul l W i) := fun i => gd_bind (hu i) fun t j hj => opLoop_gd hl hu (by decide) _ t j hj
  have hs : ∀ i, Gd Good (pSum l W i) := fun i => gd_bind (hm i) fun t j hj => opLoop_gd hl hm (by decide) _ t j hj
  have hc : ∀ i, Gd Good (pCmp l W i) := fun i => gd_bind (hs i) fun t j hj => by
    split
    · rename_i h; exact opP_gd hl hs hj (isOp_text hl h (by decide))
    · exact gd_ok hj
  exact gd_bind (hc i) fun t j hj => isLoop_gd hl _ t j hj
theorem branchP_gd {W : Nat → PR Tm} (hW : ∀ i, Gd Good (W i)) (i : Nat) : Gd (fun x : ByteArray × Tm => nameF x.1 = true ∧ Good x.2) (branchP l W i) := by
  unfold branchP
  repeat' first | with_reducible exact gd_bad | with_reducible exact gd_wbad | (with_reducible refine gd_ok ?_) | (with_reducible refine gd_bind (hW _) (fun x j hx => ?_)) | (with_reducible refine gd_bind (must4_gd hl _ _) (fun x j hx => ?_)) | (with_reducible refine gd_bind (must3_gd hl _ _) (fun x j hx => ?_)) | (with_reducible refine gd_bind (nameP_gd hl _) (fun x j hx => ?_)) | (with_reducible refine gd_bind (typP_gd hl _) (fun x j hx => ?_)) | (with_reducible refine gd_bind (numP_gd hl _ _) (fun x j hx => ?_)) | with_reducible exact hW _ | with_reducible exact must4_gd hl _ _ | with_reducible exact must3_gd hl _ _ | with_reducible exact nameP_gd hl _ | with_reducible exact typP_gd hl _ | with_reducible exact numP_gd hl _ _ | (with_reducible refine gd_ite ?_ ?_) | exact ⟨by assumption, by assumption⟩
theorem pStep_gd {W : Nat → PR Tm} (hW : ∀ i, Gd Good (W i)) (i : Nat) : Gd Good (pStep l W i) := by
  unfold pStep lamP letP ifP recP caseP
  repeat' first | with_reducible exact gd_bad | with_reducible exact gd_wbad | (with_reducible refine gd_ok ?_) | (with_reducible refine gd_bind (hW _) (fun x j hx => ?_)) | (with_reducible refine gd_bind (annP_gd hl _) (fun x j hx => ?_)) | (with_reducible refine gd_bind (branchP_gd hl hW _) (fun x j hx => ?_)) | (with_reducible refine gd_bind (pIs_gd hl hW _) (fun x j hx => ?_)) | (with_reducible refine gd_bind (must4_gd hl _ _) (fun x j hx => ?_)) | (with_reducible refine gd_bind (must3_gd hl _ _) (fun x j hx => ?_)) | (with_reducible refine gd_bind (nameP_gd hl _) (fun x j hx => ?_)) | (with_reducible refine gd_bind (typP_gd hl _) (fun x j hx => ?_)) | (with_reducible refine gd_bind (numP_gd hl _ _) (fun x j hx => ?_)) | with_reducible exact hW _ | with_reducible exact annP_gd hl _ | with_reducible exact branchP_gd hl hW _ | with_reducible exact pIs_gd hl hW _ | with_reducible exact must4_gd hl _ _ | with_reducible exact must3_gd hl _ _ | with_reducible exact nameP_gd hl _ | with_reducible exact typP_gd hl _ | with_reducible exact numP_gd hl _ _ | (with_reducible refine gd_ite ?_ ?_) | (apply good_tn <;> first | rfl | decide | (intro h; exact absurd h (by decide)) | (intro _; simp_all; done) | (intro t ht; simp at ht; rcases ht with rfl | rfl | rfl <;> simp_all; done) | (intro t ht; simp at ht; rcases ht with rfl | rfl <;> simp_all; done) | (intro t ht; simp at ht; subst ht; simp_all; done) | (intro t ht; simp at ht; done))
theorem pTerm_gd : ∀ (n i : Nat), Gd Good (pTerm l n i)
  | 0, i => gd_wbad
  | n + 1, i => pStep_gd hl (pTerm_gd n) i
end
end Go.Proofs.YtmaokphbfjpodaaGreatDoor.E

/- What is told has no blank at its ends, and no two side by side. No conditions. -/
set_option linter.unusedVariables false
set_option linter.unusedSimpArgs false
namespace Go.Proofs.YtmaokphbfjpodaaGreatDoor.E
open Go

theorem told_err {t : Tm} {s : ByteArray} {e : Int} (h : toldF t = (s, e)) (he : e ≠ 0) : s = ⟨#[]⟩ := by
  unfold toldF at h
  split at h
  · split at h
    · cases h; rfl
    · split at h
      · cases h; rfl
      · cases h; exact absurd rfl he
  · cases h; rfl
end Go.Proofs.YtmaokphbfjpodaaGreatDoor.E

/- What is read of a text is a term, in plain Lean. No conditions. -/
set_option linter.unusedVariables false
set_option linter.unusedSimpArgs false
namespace Go.Proofs.YtmaokphbfjpodaaGreatDoor.E
open Go

theorem spanL_all (b : Bool) : ∀ l : List UInt8, ∀ c ∈ l.take (spanL b l), (digitF c.toNat || (b && letterF c.toNat)) = true
  | [], c, h => by simp at h
  | d :: l, c, h => by
    unfold spanL at h
    split at h
    · rename_i hd
      rw [show 1 + spanL b l = spanL b l + 1 by omega, List.take_succ_cons] at h
      rcases List.mem_cons.1 h with rfl | h
      · exact hd
      · exact spanL_all b l c h
    · simp at h
theorem numL_le : ∀ (l : List UInt8) (n v : Nat), n ≤ 9223372036854775807 → numL n l = some v → v ≤ 9223372036854775807
  | [], n, v, hn, h => by simp [numL] at h; omega
  | c :: l, n, v, hn, h => by
    rw [numL] at h
    split at h
    · cases h
    · rename_i hc
      have := c.toNat_lt
      exact numL_le l _ v (by omega) h
theorem bytesF_of {w : ByteArray} : ∀ n, n ≤ w.size → (∀ d ∈ w.data.toList.take n, nbF (d.toNat : Nat) = true) → bytesF w n = true
  | 0, _, _ => rfl
  | n + 1, hn, h => by
    have hlt : n < w.data.toList.length := hn
    rw [List.take_succ_eq_append_getElem hlt] at h
    simp only [bytesF, Bool.and_eq_true]
    refine ⟨bytesF_of n (by omega) fun d hd => h d (List.mem_append.2 (.inl hd)), ?_⟩
    have := h _ (List.mem_append.2 (.inr (List.mem_singleton.2 rfl)))
    unfold byteAt
    rw [show ((n : Nat) : Int).toNat = n from rfl, List.getElem?_eq_getElem hlt]
    exact this
theorem letter_not_digit {c : Int} (h : letterF c = true) : digitF c = false := by
  simp only [letterF, Bool.or_eq_true, Bool.and_eq_true, decide_eq_true_eq] at h
  simp only [digitF, Bool.and_eq_false_iff, decide_eq_false_iff_not]
  omega
theorem wordL_wok {p : Nat} {l : List UInt8} {w : Wd} (h : wordL p l = .ok w) : (w.kind = 1 → nameF w.text = true) ∧ (w.kind = 2 → 0 ≤ w.num ∧ w.num ≤ 9223372036854775807) := by
  have hsz := wordL_ok h
  cases l with
  | nil => cases h
  | cons c l =>
    by_cases h1 : letterF c.toNat = true
    · rw [wordL_letter h1] at h
      have hpos : 1 ≤ spanL true (c :: l) := by rw [spanL, if_pos (by rw [h1]; simp)]; omega
      have hall := spanL_all true (c :: l)
      generalize hn : spanL true (c :: l) = n at h hpos hall
      obtain ⟨n, rfl⟩ : ∃ q, n = q + 1 := ⟨n - 1, by omega⟩
      split at h
      · cases h
      · rename_i h64
        split at h
        · cases h; exact ⟨fun q => by simp at q, fun q => by simp at q⟩
        · rename_i hk
          cases h
          refine ⟨fun _ => ?_, fun q => by simp at q⟩
          have e : (⟨((c :: l).take (n + 1)).toArray⟩ : ByteArray).data.toList = c :: l.take n := rfl
          simp only [nameF, Bool.and_eq_true, Bool.not_eq_true', decide_eq_true_eq, decide_eq_false_iff_not]
          refine ⟨⟨⟨⟨fun q => ?_, ?_⟩, by simpa using hk⟩, ?_⟩, ?_⟩
          · have := congrArg (fun b : ByteArray => b.data.toList) q
            rw [e] at this; cases this
          · have : (⟨((c :: l).take (n + 1)).toArray⟩ : ByteArray).size = ((c :: l).take (n + 1)).toArray.size := rfl
            rw [this]; omega
          · rw [byteAt_list e]; exact letter_not_digit h1
          · refine bytesF_of _ (Nat.le_refl _) fun d hd => ?_
            have := hall d (List.mem_of_mem_take hd)
            unfold nbF; rw [Bool.or_comm]; simpa using this
    · have h1 : letterF c.toNat = false := by simpa using h1
      by_cases h2 : digitF c.toNat = true
      · rw [wordL_digit h1 h2] at h
        split at h
        · cases h
        · rename_i v hv
          have e := ite_ok h
          subst e
          refine ⟨fun q => by simp at q, fun _ => ?_⟩
          have := numL_le _ 0 v (by decide) hv
          simp only
          omega
      · have h2 : digitF c.toNat = false := by simpa using h2
        unfold wordL at h
        simp only at h
        rw [if_neg (by rw [h1]; decide), if_neg (by rw [h2]; decide)] at h
        split at h
        · split at h <;> (cases h; exact ⟨fun q => by simp at q, fun q => by simp at q⟩)
        · split at h
          · cases h; exact ⟨fun q => by simp at q, fun q => by simp at q⟩
          · cases h
theorem scanL_wok : ∀ (n p : Nat) (s : List UInt8) (l : List Wd), scanL n p s = .ok l → WsOk l
  | 0, p, s, l, h => by cases h; intro w hw; simp at hw
  | n + 1, p, s, l, h => by
    rw [scanL_skip] at h
    generalize hq : s.drop (skipL false s) = r at h
    by_cases hn : r = []
    · subst hn; rw [scanL_nil] at h; cases h; intro w hw; simp at hw
    · rw [scanL_step n _ r (by rw [← hq]; exact skipL_again s false) hn] at h
      split at h
      · cases h
      · rename_i w hw
        split at h
        · cases h
        · rename_i l' hl
          cases h
          have ih := scanL_wok n _ _ _ hl
          intro x hx
          rcases List.mem_cons.1 hx with rfl | hx
          · exact wordL_wok hw
          · exact ih x hx
theorem scanF_wok {s : ByteArray} {l : List Wd} (h : scanF s = .ok l) : WsOk l := by
  obtain ⟨_, ws, rfl, _, h2⟩ := scanF_ok h
  have := scanL_wok _ _ _ _ h2
  intro w hw
  rcases List.mem_append.1 hw with hw | hw
  · exact this w hw
  · rw [List.mem_singleton] at hw
    subst hw
    exact ⟨fun q => absurd q (show ¬ (0 : Int) = 1 by decide), fun q => absurd q (show ¬ (0 : Int) = 2 by decide)⟩
/-- What is read is a term. -/
theorem read_good {s : ByteArray} {t : Tm} (h : readF s = .ok t) : tmcheck t = 0 ∧ tmInR t ∧ tmBad t = false := by
  unfold readF at h
  split at h
  · cases h
  · rename_i l hl
    split at h
    · cases h
    · rename_i t' j hw
      have ht : t' = t := by
        split at h
        · rename_i w hwj
          by_cases hk : w.kind = 0
          · rw [if_pos hk] at h; cases h; rfl
          · rw [if_neg hk] at h; cases h
        · cases h
      subst ht
      unfold wordsP at hw
      cases hp : pTerm l (l.length + 1) 0 with
      | bad e a w => rw [hp] at hw; cases hw
      | ok u q =>
        rw [hp, bindP_ok] at hw
        have hg := pTerm_gd (scanF_wok hl) (l.length + 1) 0 u q hp
        split at hw
        · cases hw
        · rename_i h1
          split at hw
          · cases hw
          · rename_i h2
            cases hw
            exact ⟨by rw [tmcheck_eq, if_neg h1, if_neg h2, if_pos hg.1], hg.2.1, hg.2.2⟩
/-- A term that is read is told, or is too long. -/
theorem again_err {s s' : ByteArray} {t : Tm} {e : Int} (h : readF s = .ok t) (hq : toldF t = (s', e)) (he : e ≠ 0) : s' = ⟨#[]⟩ ∧ e = 3 := by
  obtain ⟨h1, h2, h3⟩ := read_good h
  refine ⟨told_err hq he, ?_⟩
  unfold toldF at hq
  rw [if_pos h1, if_neg (by rw [h3]; decide)] at hq
  split at hq
  · cases hq; rfl
  · cases hq; exact absurd rfl he
end Go.Proofs.YtmaokphbfjpodaaGreatDoor.E

/- Walks: ShowAgain. No conditions. -/
set_option linter.unusedVariables false
set_option linter.unusedSimpArgs false
namespace Go.Proofs.YtmaokphbfjpodaaGreatDoor.E
open Go

set_option maxRecDepth 10000 in
set_option maxHeartbeats 2000000 in
theorem law_ShowAgain (x : ByteArray) : ACall Tryz.prog 6 [.c (.d (.str x))] [] (fun o σ => o = .ret (.c (.d (.bool true))) ∧ σ = []) := by
  have P := parseTerm_call x
  unfold termO at P
  cases hr : readF x with
  | error y =>
    obtain ⟨e, a, w⟩ := y
    rw [hr] at P
    refine ACall.body tab_ok (ρ := 0) (N := 54) Tryz.func6 rfl rfl rfl rfl rfl ?_
    repeat' first | refine AW.seq ?_ | refine AW.block ?_ | ((first | refine AW.region tab_ok ?_ | refine AW.cond ?_ | refine AW.skip ?_ | refine AW.ret ?_ | refine AW.exit ?_); conv => whnf) | (refine (P).mono ?_; rintro _ _ ⟨rfl, rfl⟩; conv => whnf) | ((first | refine And.intro (@rfl Val _) ?_ | refine And.intro (by decide) ?_ | refine cs (fun _ => ?_) (fun _ => ?_)) <;> conv => whnf)
    all_goals first | exact ⟨rfl, rfl⟩
  | ok t =>
    rw [hr] at P
    obtain ⟨hc, hn, hb⟩ := read_good hr
    have D := told_call t hn
    have E := fun s e (h : toldF t = (s, e)) (he : e ≠ 0) => again_err hr h he
    have B := fun s (h : toldF t = (s, 0)) => read_back hn h
    unfold toldV at D
    generalize hq : toldF t = q at D E B
    obtain ⟨s, e⟩ := q
    by_cases he : e = 0
    · subst he
      obtain ⟨_, u, hu, hcl⟩ := B s rfl
      have hsm := sameT_cl hc hcl
      have hgu := read_good hu
      have hqu : toldF u = (s, 0) := by rw [← told_cl u, hcl, told_cl, hq]
      have P2 := parseTerm_call s
      unfold termO at P2
      rw [hu] at P2
      have R := tSame_call t u
      rw [hsm] at R
      have D2 := told_call u hgu.2.1
      unfold toldV at D2
      rw [hqu] at D2
      obtain ⟨k, nm, ag, nu, tk, tks, uk, uks, lb, pl, ks⟩ := t
      obtain ⟨k', nm', ag', nu', tk', tks', uk', uks', lb', pl', ks'⟩ := u
      refine ACall.body tab_ok (ρ := 0) (N := 54) Tryz.func6 rfl rfl rfl rfl rfl ?_
      repeat' first | refine AW.seq ?_ | refine AW.block ?_ | ((first | refine AW.region tab_ok ?_ | refine AW.cond ?_ | refine AW.skip ?_ | refine AW.ret ?_ | refine AW.exit ?_); conv => whnf) | ((first | refine (P).mono ?_ | refine (P2).mono ?_ | refine (D).mono ?_ | refine (D2).mono ?_ | refine (R).mono ?_); rintro _ _ ⟨rfl, rfl⟩; conv => whnf) | ((first | refine And.intro (@rfl Val _) ?_ | refine And.intro (by decide) ?_ | refine cs (fun _ => ?_) (fun _ => ?_)) <;> conv => whnf)
      all_goals first | (refine ⟨outb ?_, rfl⟩; simp; done) | exact ⟨rfl, rfl⟩
    · obtain ⟨rfl, rfl⟩ := E s e rfl he
      obtain ⟨k, nm, ag, nu, tk, tks, uk, uks, lb, pl, ks⟩ := t
      refine ACall.body tab_ok (ρ := 0) (N := 54) Tryz.func6 rfl rfl rfl rfl rfl ?_
      repeat' first | refine AW.seq ?_ | refine AW.block ?_ | ((first | refine AW.region tab_ok ?_ | refine AW.cond ?_ | refine AW.skip ?_ | refine AW.ret ?_ | refine AW.exit ?_); conv => whnf) | ((first | refine (P).mono ?_ | refine (D).mono ?_); rintro _ _ ⟨rfl, rfl⟩; conv => whnf) | ((first | refine And.intro (@rfl Val _) ?_ | refine And.intro (by decide) ?_ | refine cs (fun _ => ?_) (fun _ => ?_)) <;> conv => whnf)
      all_goals first | exact ⟨rfl, rfl⟩
end Go.Proofs.YtmaokphbfjpodaaGreatDoor.E

/- From a row's reading of an argument to a tree. No conditions. -/
set_option linter.unusedVariables false
set_option linter.unusedSimpArgs false
namespace Go.Proofs.YtmaokphbfjpodaaGreatDoor.E
open Go Go.RowKit

/-- All that was there is one region. -/
def rgAll (w : World) : Nat → Option Nat := fun b => if b < w.heap.size then some 0 else none
def czAll (w : World) : Cz := ⟨[], rgAll w⟩
theorem inv_all (w : World) (hg : GlobOk w (czAll w) := by intro a v h; simp [globs] at h) : Inv w (czAll w) [] :=
  ⟨rfl, fun i o e h => by simp at h, fun i o e b h => by simp at h, fun i j o p e f b h => by simp at h, fun b r h => (by
    simp only [czAll, rgAll] at h
    split at h
    · assumption
    · cases h), hg⟩

section
variable {H : Type} {enc : TypeId × Value → H} {w : World} {base : Nat} {spare : Nat → Bool} {held : Bool}

end

end Go.Proofs.YtmaokphbfjpodaaGreatDoor.E

/- From a law's walk to its row: parts for all rows. No conditions. -/
namespace Go.Proofs.YtmaokphbfjpodaaGreatDoor.E
open Go Go.RowKit

theorem rep1 {w : World} {C : Cz} {u : Value} {x : Val} (h : RepV w C u x) : RepVs w C #[u].toList [x] := .cons h ⟨rfl, fun i v x h => by simp at h⟩
/-- A law that is true: as a call. -/
theorem law_true {P : Program} {f : FuncId} {args : List Val} (h : ACall P f args [] (fun o σ => o = .ret (.c (.d (.bool true))) ∧ σ = [])) {w : World} {vs : Array Value} (hv : RepVs w (czAll w) vs.toList args) (hg : GlobOk w (czAll w) := by intro a v h; simp [globs] at h) :
    Calls P f vs w fun e w' => e = .returned (.bool true) ∧ Below w.heap.size w w' :=
  (h.out w (czAll w) vs (inv_all w hg) hv).mono fun e w' ⟨o, σ', C', ⟨ho, hs⟩, hI, hX, hO⟩ => by
    subst ho; subst hs
    obtain ⟨v, rfl, hr⟩ := hO
    have := bool_of hr
    subst this
    exact ⟨rfl, hX.os, hX.tape, hX.output, hX.size, fun k hk => hX.frame k hk (fun ⟨i, o, e, h, _⟩ => by simp at h) (fun r hr => by simp only [czAll, rgAll] at hr; rw [if_pos hk] at hr; cases hr; rfl)⟩
end Go.Proofs.YtmaokphbfjpodaaGreatDoor.E

/- From a row's reading of a term to a tree. No conditions. -/
set_option linter.unusedVariables false
set_option linter.unusedSimpArgs false
namespace Go.Proofs.YtmaokphbfjpodaaGreatDoor.E
open Go Go.RowKit

theorem u9 : Tryz.prog.underlying 9 = some .string := by kernel_rfl
theorem u2 : Tryz.prog.underlying 2 = some (.int .i64) := by kernel_rfl
theorem u3 : Tryz.prog.underlying 3 = some (.int .i64) := by kernel_rfl
theorem c2 : Tryz.prog.cellsOf 2 = 1 := by kernel_rfl
theorem c3 : Tryz.prog.cellsOf 3 = 1 := by kernel_rfl
section
variable {H : Type} {enc : TypeId × Value → H} {w : World} {base : Nat} {spare : Nat → Bool} {held : Bool}
end
end Go.Proofs.YtmaokphbfjpodaaGreatDoor.E
