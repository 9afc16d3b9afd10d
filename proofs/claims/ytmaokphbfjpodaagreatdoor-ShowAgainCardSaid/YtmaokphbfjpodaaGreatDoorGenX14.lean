/- Texts, merged: Bk2, Bk3. No conditions. -/
import Derived.Test.YtmaokphbfjpodaaGreatDoorGenX13
/- Each kind of term is read as it is told, in plain Lean. No conditions. -/
set_option linter.unusedVariables false
set_option linter.unusedSimpArgs false
namespace Go.Proofs.YtmaokphbfjpodaaGreatDoor.E
open Go

structure TmRd (l : List Wd) (t : Tm) : Prop where
  r5 : C5 l t (tmAT 5 t)
  r4 : C4 l t (tmAT 4 t)
  r3 : C3 l t (tmAT 3 t)
  r2 : C2 l t (tmAT 2 t)
  r0 : C0 l t (tmAT 0 t)
  rm : Cm l t (tmAT (-1) t)
  nb : ∀ least, 0 ≤ least → ∀ rest, NoB (tmAT least t ++ rest)
theorem tmAT_in {t : Tm} {s least : Int} (hs : tmS t = s) (h : s ≥ least) : tmAT least t = tmT t := by
  unfold tmAT wbrT; rw [hs]; exact if_pos h
theorem tmAT_bra {t : Tm} {s least : Int} (hs : tmS t = s) (h : ¬ s ≥ least) : tmAT least t = sg [40] :: (tmT t ++ [sg [41]]) := by
  unfold tmAT wbrT; rw [hs]; exact if_neg h
theorem nb_of {t : Tm} {s : Int} (hs : tmS t = s) (hb : 0 ≤ s → ∀ rest, NoB (tmT t ++ rest)) : ∀ least, 0 ≤ least → ∀ rest, NoB (tmAT least t ++ rest) := by
  intro least h0 rest
  by_cases h : s ≥ least
  · rw [tmAT_in hs h]; exact hb (by omega) rest
  · rw [tmAT_bra hs h]; exact ⟨rfl, rfl, rfl, rfl, rfl⟩
theorem asm5 {l : List Wd} {t : Tm} (hs : tmS t = 5) (h : C5 l t (tmT t)) (hb : ∀ rest, NoB (tmT t ++ rest)) (hne : tmT t ≠ []) : TmRd l t := by
  have h5 := h
  have h4 := c4_of h5 hne
  have h3 := c3_of h4
  have h2 := c2_of h3
  have h1 := c1_of h2
  have h0 := c0_of h1 hb
  have hm := cm_of h0 hne
  exact ⟨by rw [tmAT_in hs (by decide)]; exact h5, by rw [tmAT_in hs (by decide)]; exact h4, by rw [tmAT_in hs (by decide)]; exact h3, by rw [tmAT_in hs (by decide)]; exact h2, by rw [tmAT_in hs (by decide)]; exact h0, by rw [tmAT_in hs (by decide)]; exact hm, nb_of hs (fun q => hb)⟩
theorem asm4 {l : List Wd} {t : Tm} (hs : tmS t = 4) (h : C4 l t (tmT t)) (hb : ∀ rest, NoB (tmT t ++ rest)) (hne : tmT t ≠ []) : TmRd l t := by
  have h4 := h
  have h3 := c3_of h4
  have h2 := c2_of h3
  have h1 := c1_of h2
  have h0 := c0_of h1 hb
  have hm := cm_of h0 hne
  have b5 := c5_bra hm
  have hbn : sg [40] :: (tmT t ++ [sg [41]]) ≠ [] := List.cons_ne_nil _ _
  exact ⟨by rw [tmAT_bra hs (by decide)]; exact b5, by rw [tmAT_in hs (by decide)]; exact h4, by rw [tmAT_in hs (by decide)]; exact h3, by rw [tmAT_in hs (by decide)]; exact h2, by rw [tmAT_in hs (by decide)]; exact h0, by rw [tmAT_in hs (by decide)]; exact hm, nb_of hs (fun q => hb)⟩
theorem asm3 {l : List Wd} {t : Tm} (hs : tmS t = 3) (h : C3 l t (tmT t)) (hb : ∀ rest, NoB (tmT t ++ rest)) (hne : tmT t ≠ []) : TmRd l t := by
  have h3 := h
  have h2 := c2_of h3
  have h1 := c1_of h2
  have h0 := c0_of h1 hb
  have hm := cm_of h0 hne
  have b5 := c5_bra hm
  have hbn : sg [40] :: (tmT t ++ [sg [41]]) ≠ [] := List.cons_ne_nil _ _
  have b4 := c4_of b5 hbn
  exact ⟨by rw [tmAT_bra hs (by decide)]; exact b5, by rw [tmAT_bra hs (by decide)]; exact b4, by rw [tmAT_in hs (by decide)]; exact h3, by rw [tmAT_in hs (by decide)]; exact h2, by rw [tmAT_in hs (by decide)]; exact h0, by rw [tmAT_in hs (by decide)]; exact hm, nb_of hs (fun q => hb)⟩
theorem asm2 {l : List Wd} {t : Tm} (hs : tmS t = 2) (h : C2 l t (tmT t)) (hb : ∀ rest, NoB (tmT t ++ rest)) (hne : tmT t ≠ []) : TmRd l t := by
  have h2 := h
  have h1 := c1_of h2
  have h0 := c0_of h1 hb
  have hm := cm_of h0 hne
  have b5 := c5_bra hm
  have hbn : sg [40] :: (tmT t ++ [sg [41]]) ≠ [] := List.cons_ne_nil _ _
  have b4 := c4_of b5 hbn
  have b3 := c3_of b4
  exact ⟨by rw [tmAT_bra hs (by decide)]; exact b5, by rw [tmAT_bra hs (by decide)]; exact b4, by rw [tmAT_bra hs (by decide)]; exact b3, by rw [tmAT_in hs (by decide)]; exact h2, by rw [tmAT_in hs (by decide)]; exact h0, by rw [tmAT_in hs (by decide)]; exact hm, nb_of hs (fun q => hb)⟩
theorem asm1 {l : List Wd} {t : Tm} (hs : tmS t = 1) (h : C1 l t (tmT t)) (hb : ∀ rest, NoB (tmT t ++ rest)) (hne : tmT t ≠ []) : TmRd l t := by
  have h1 := h
  have h0 := c0_of h1 hb
  have hm := cm_of h0 hne
  have b5 := c5_bra hm
  have hbn : sg [40] :: (tmT t ++ [sg [41]]) ≠ [] := List.cons_ne_nil _ _
  have b4 := c4_of b5 hbn
  have b3 := c3_of b4
  have b2 := c2_of b3
  exact ⟨by rw [tmAT_bra hs (by decide)]; exact b5, by rw [tmAT_bra hs (by decide)]; exact b4, by rw [tmAT_bra hs (by decide)]; exact b3, by rw [tmAT_bra hs (by decide)]; exact b2, by rw [tmAT_in hs (by decide)]; exact h0, by rw [tmAT_in hs (by decide)]; exact hm, nb_of hs (fun q => hb)⟩
theorem asm0 {l : List Wd} {t : Tm} (hs : tmS t = 0) (h : C0 l t (tmT t)) (hb : ∀ rest, NoB (tmT t ++ rest)) (hne : tmT t ≠ []) : TmRd l t := by
  have h0 := h
  have hm := cm_of h0 hne
  have b5 := c5_bra hm
  have hbn : sg [40] :: (tmT t ++ [sg [41]]) ≠ [] := List.cons_ne_nil _ _
  have b4 := c4_of b5 hbn
  have b3 := c3_of b4
  have b2 := c2_of b3
  have b1 := c1_of b2
  exact ⟨by rw [tmAT_bra hs (by decide)]; exact b5, by rw [tmAT_bra hs (by decide)]; exact b4, by rw [tmAT_bra hs (by decide)]; exact b3, by rw [tmAT_bra hs (by decide)]; exact b2, by rw [tmAT_in hs (by decide)]; exact h0, by rw [tmAT_in hs (by decide)]; exact hm, nb_of hs (fun q => hb)⟩
theorem asmm {l : List Wd} {t : Tm} (hs : tmS t = (-1)) (h : Cm l t (tmT t)) (hne : tmT t ≠ []) : TmRd l t := by
  have hm := h
  have b5 := c5_bra hm
  have hbn : sg [40] :: (tmT t ++ [sg [41]]) ≠ [] := List.cons_ne_nil _ _
  have b4 := c4_of b5 hbn
  have b3 := c3_of b4
  have b2 := c2_of b3
  have b1 := c1_of b2
  have b0 := c0_of b1 (fun rest => ⟨rfl, rfl, rfl, rfl, rfl⟩)
  exact ⟨by rw [tmAT_bra hs (by decide)]; exact b5, by rw [tmAT_bra hs (by decide)]; exact b4, by rw [tmAT_bra hs (by decide)]; exact b3, by rw [tmAT_bra hs (by decide)]; exact b2, by rw [tmAT_bra hs (by decide)]; exact b0, by rw [tmAT_in hs (by decide)]; exact hm, nb_of hs (fun q => absurd q (by decide))⟩
theorem mustP_at {l : List Wd} {i : Nat} {k : Int} {s : ByteArray} {r : List Tk} (h : toksW l i = ⟨k, s, 0⟩ :: r) : mustP l k s i = .ok () (i + 1) := mustP_toks h rfl rfl
theorem rd_0 (l : List Wd) {name arg : ByteArray} {num tk : Int} {tks : List Ty} {uk : Int} {uks : List Ty} {label place : Int} : TmRd l (.node 0 name arg num tk tks uk uks label place []) := by
  refine asm5 rfl ⟨fun rest => ⟨rfl, rfl, rfl, rfl, rfl⟩, ?_⟩ (fun rest => ⟨rfl, rfl, rfl, rfl, rfl⟩) (List.cons_ne_nil _ _)
  intro n i rest h hn
  obtain ⟨w, hw, hx, hi, h1⟩ := toksW_cons (show toksW l i = nmT name :: rest from h)
  obtain ⟨wk, wt, wn, wp⟩ := w
  cases hx
  refine ⟨(tn 0 wt s0 0 ty0 ty0 wp []), l.length + 1, i + 1, ?_, by simp [tn, ty0, s0, cl, clL, nameK, argK, typeK, toK], by omega, by omega, h1⟩
  have tk0 := fun k s => tkW_toks h k s
  have : pAtom l (pTerm l n) i = .ok (tn 0 wt s0 0 ty0 ty0 wp []) (i + 1) := by
    rw [pAtom, hw]
    simp only
    rw [if_neg (by decide), if_pos (by decide)]
  rw [this]
  rfl
theorem rd_2 (l : List Wd) {name arg : ByteArray} {num tk : Int} {tks : List Ty} {uk : Int} {uks : List Ty} {label place : Int} : TmRd l (.node 2 name arg num tk tks uk uks label place []) := by
  refine asm5 rfl ⟨fun rest => ⟨rfl, rfl, rfl, rfl, rfl⟩, ?_⟩ (fun rest => ⟨rfl, rfl, rfl, rfl, rfl⟩) (List.cons_ne_nil _ _)
  intro n i rest h hn
  obtain ⟨w, hw, hx, hi, h1⟩ := toksW_cons (show toksW l i = ky [116, 114, 117, 101] :: rest from h)
  obtain ⟨wk, wt, wn, wp⟩ := w
  cases hx
  refine ⟨(tn 2 s0 s0 0 ty0 ty0 wp []), l.length + 1, i + 1, ?_, by simp [tn, ty0, s0, cl, clL, nameK, argK, typeK, toK], by omega, by omega, h1⟩
  have tk0 := fun k s => tkW_toks h k s
  have : pAtom l (pTerm l n) i = .ok (tn 2 s0 s0 0 ty0 ty0 wp []) (i + 1) := by
    rw [pAtom, hw]
    simp only
    have e1 : tkW l i 3 ⟨#[116, 114, 117, 101]⟩ = true := by rw [tk0]; rfl
    rw [if_neg (by decide), if_neg (by decide), if_pos e1]
  rw [this]
  rfl
theorem rd_3 (l : List Wd) {name arg : ByteArray} {num tk : Int} {tks : List Ty} {uk : Int} {uks : List Ty} {label place : Int} : TmRd l (.node 3 name arg num tk tks uk uks label place []) := by
  refine asm5 rfl ⟨fun rest => ⟨rfl, rfl, rfl, rfl, rfl⟩, ?_⟩ (fun rest => ⟨rfl, rfl, rfl, rfl, rfl⟩) (List.cons_ne_nil _ _)
  intro n i rest h hn
  obtain ⟨w, hw, hx, hi, h1⟩ := toksW_cons (show toksW l i = ky [102, 97, 108, 115, 101] :: rest from h)
  obtain ⟨wk, wt, wn, wp⟩ := w
  cases hx
  refine ⟨(tn 3 s0 s0 0 ty0 ty0 wp []), l.length + 1, i + 1, ?_, by simp [tn, ty0, s0, cl, clL, nameK, argK, typeK, toK], by omega, by omega, h1⟩
  have tk0 := fun k s => tkW_toks h k s
  have : pAtom l (pTerm l n) i = .ok (tn 3 s0 s0 0 ty0 ty0 wp []) (i + 1) := by
    rw [pAtom, hw]
    simp only
    have e1 : tkW l i 3 ⟨#[116, 114, 117, 101]⟩ = false := by rw [tk0]; rfl
    have e2 : tkW l i 3 ⟨#[102, 97, 108, 115, 101]⟩ = true := by rw [tk0]; rfl
    rw [if_neg (by decide), if_neg (by decide), if_neg (by rw [e1]; decide), if_pos e2]
  rw [this]
  rfl
theorem rd_1 (l : List Wd) {name arg : ByteArray} {num tk : Int} {tks : List Ty} {uk : Int} {uks : List Ty} {label place : Int} (hn : -9223372036854775808 < num ∧ num ≤ 9223372036854775807) : TmRd l (.node 1 name arg num tk tks uk uks label place []) := by
  by_cases hneg : num < 0
  · have hS : tmS (.node 1 name arg num tk tks uk uks label place []) = 4 := by simp [tmS, hneg]
    have hT : tmT (.node 1 name arg num tk tks uk uks label place []) = [sg [45], nuT (-num)] := by simp [tmT, tmJT, hneg]
    refine asm4 hS ?_ (by rw [hT]; exact fun rest => ⟨rfl, rfl, rfl, rfl, rfl⟩) (by rw [hT]; exact List.cons_ne_nil _ _)
    rw [hT]
    intro n m i rest h hn2 hm hr
    have h1 := toksW_next (show toksW l i = sg [45] :: nuT (-num) :: rest from h)
    have hi := toksW_lt (show toksW l i = sg [45] :: nuT (-num) :: rest from h)
    obtain ⟨w, hw, hx, hi2, h2⟩ := toksW_cons h1
    obtain ⟨m, rfl⟩ : ∃ q, m = q + 1 := ⟨m - 1, by omega⟩
    have hk : w.kind = 2 := congrArg Tk.kind hx
    have hnum : w.num = -num := congrArg Tk.num hx
    have tk0 := fun k s => tkW_toks h k s
    have f1 : tkW l i 3 ⟨#[102, 115, 116]⟩ = false := by rw [tk0]; rfl
    have f2 : tkW l i 3 ⟨#[115, 110, 100]⟩ = false := by rw [tk0]; rfl
    have f3 : tkW l i 3 ⟨#[105, 110, 108]⟩ = false := by rw [tk0]; rfl
    have f4 : tkW l i 3 ⟨#[105, 110, 114]⟩ = false := by rw [tk0]; rfl
    have f5 : tkW l i 4 ⟨#[45]⟩ = true := by rw [tk0]; rfl
    refine ⟨tn 1 s0 s0 num ty0 ty0 (placeW l i) [], i + 2, ?_, by simp [tn, ty0, s0, cl, clL, nameK, argK, typeK, toK], by omega, h2⟩
    rw [pUn, if_neg (by rw [f1]; decide), if_neg (by rw [f2]; decide), if_neg (by rw [f3]; decide), if_neg (by rw [f4]; decide), if_pos f5, numP, hw]
    simp only
    rw [if_pos hk, hnum, show (0 : Int) - -num = num by omega, wrap64 (by omega) (by omega)]
  · have hS : tmS (.node 1 name arg num tk tks uk uks label place []) = 5 := by simp [tmS, hneg]
    have hT : tmT (.node 1 name arg num tk tks uk uks label place []) = [nuT num] := by simp [tmT, tmJT, hneg]
    refine asm5 hS ?_ (by rw [hT]; exact fun rest => ⟨rfl, rfl, rfl, rfl, rfl⟩) (by rw [hT]; exact List.cons_ne_nil _ _)
    rw [hT]
    refine ⟨fun rest => ⟨rfl, rfl, rfl, rfl, rfl⟩, ?_⟩
    intro n i rest h hn
    obtain ⟨w, hw, hx, hi, h1⟩ := toksW_cons (show toksW l i = nuT num :: rest from h)
    have hk : w.kind = 2 := congrArg Tk.kind hx
    have hnum : w.num = num := congrArg Tk.num hx
    refine ⟨tn 1 s0 s0 num ty0 ty0 w.place [], l.length + 1, i + 1, ?_, by simp [tn, ty0, s0, cl, clL, nameK, argK, typeK, toK], by omega, by omega, h1⟩
    have : pAtom l (pTerm l n) i = .ok (tn 1 s0 s0 num ty0 ty0 w.place []) (i + 1) := by
      rw [pAtom, hw]
      simp only
      rw [if_pos hk, hnum]
    rw [this]
    rfl
theorem rd_6 (l : List Wd) {name arg : ByteArray} {num tk : Int} {tks : List Ty} {uk : Int} {uks : List Ty} {label place : Int} {a b : Tm} (ra : TmRd l a) (rb : TmRd l b) : TmRd l (.node 6 name arg num tk tks uk uks label place [a, b]) := by
  have hT : tmT (.node 6 name arg num tk tks uk uks label place [a, b]) = tmAT 5 a ++ sg [40] :: (tmAT (-1) b ++ [sg [41]]) := rfl
  refine asm5 rfl ?_ (fun rest => by rw [hT, List.append_assoc]; exact ra.nb 5 (by decide) _) (by rw [hT]; simp)
  rw [hT]
  refine ⟨fun rest => by rw [List.append_assoc]; exact ra.r5.1 _, ?_⟩
  intro n i rest h hn
  rw [List.append_assoc, List.cons_append, List.append_assoc] at h
  obtain ⟨a', m, j, a1, a2, a3, a4, a5⟩ := ra.r5.2 n i _ h hn
  have hj := toksW_lt a5
  obtain ⟨b', j2, b1, b2, b3, b4⟩ := rb.rm n (j + 1) (sg [41] :: rest) (by simpa using toksW_next a5) (by omega) (notIn_tok rfl _)
  have m1 : mustP l 4 ⟨#[41]⟩ j2 = .ok () (j2 + 1) := mustP_at b4
  refine ⟨tn 6 s0 s0 0 ty0 ty0 (placeW l j) [a', b'], m - 1, j2 + 1, ?_, by simp [tn, ty0, s0, cl, clL, nameK, argK, typeK, toK, a2, b2], by omega, by omega, toksW_next b4⟩
  rw [a1, appLoop_go (by omega) (by rw [tkW_toks a5]; rfl) b1 m1]
theorem rd_9 (l : List Wd) {name arg : ByteArray} {num tk : Int} {tks : List Ty} {uk : Int} {uks : List Ty} {label place : Int} {a b : Tm} (ra : TmRd l a) (rb : TmRd l b) : TmRd l (.node 9 name arg num tk tks uk uks label place [a, b]) := by
  have hT : tmT (.node 9 name arg num tk tks uk uks label place [a, b]) = sg [91] :: (tmAT (-1) a ++ sg [44] :: (tmAT (-1) b ++ [sg [93]])) := rfl
  refine asm5 rfl ⟨fun rest => ⟨rfl, rfl, rfl, rfl, rfl⟩, ?_⟩ (fun rest => ⟨rfl, rfl, rfl, rfl, rfl⟩) (List.cons_ne_nil _ _)
  intro n i rest h hn
  rw [hT, List.cons_append, List.append_assoc, List.cons_append, List.append_assoc] at h
  obtain ⟨w, hw, hx, hi, h1⟩ := toksW_cons h
  obtain ⟨wk, wt, wn, wp⟩ := w
  cases hx
  have tk0 := fun k s => tkW_toks h k s
  obtain ⟨a', j, a1, a2, a3, a4⟩ := ra.rm n (i + 1) _ h1 (by omega) (notIn_tok rfl _)
  have m1 : mustP l 4 ⟨#[44]⟩ j = .ok () (j + 1) := mustP_at a4
  obtain ⟨b', j2, b1, b2, b3, b4⟩ := rb.rm n (j + 1) (sg [93] :: rest) (by simpa using toksW_next a4) (by omega) (notIn_tok rfl _)
  have m2 : mustP l 4 ⟨#[93]⟩ j2 = .ok () (j2 + 1) := mustP_at b4
  refine ⟨tn 9 s0 s0 0 ty0 ty0 wp [a', b'], l.length + 1, j2 + 1, ?_, by simp [tn, ty0, s0, cl, clL, nameK, argK, typeK, toK, a2, b2], by omega, by omega, toksW_next b4⟩
  have : pAtom l (pTerm l n) i = .ok (tn 9 s0 s0 0 ty0 ty0 wp [a', b']) (j2 + 1) := by
    have e1 : tkW l i 3 ⟨#[116, 114, 117, 101]⟩ = false := by rw [tk0]; rfl
    have e2 : tkW l i 3 ⟨#[102, 97, 108, 115, 101]⟩ = false := by rw [tk0]; rfl
    have e3 : tkW l i 4 ⟨#[40]⟩ = false := by rw [tk0]; rfl
    have e4 : tkW l i 4 ⟨#[91]⟩ = true := by rw [tk0]; rfl
    rw [pAtom, hw]
    simp only
    rw [if_neg (by decide), if_neg (by decide), if_neg (by rw [e1]; decide), if_neg (by rw [e2]; decide), if_neg (by rw [e3]; decide), if_pos e4, a1, bindP_ok, m1, bindP_ok, b1, bindP_ok, m2, bindP_ok]
  rw [this]
  rfl
theorem rd_10 (l : List Wd) {name arg : ByteArray} {num tk : Int} {tks : List Ty} {uk : Int} {uks : List Ty} {label place : Int} {a : Tm} (ra : TmRd l a) : TmRd l (.node 10 name arg num tk tks uk uks label place [a]) := by
  refine asm4 rfl ?_ (fun rest => ⟨rfl, rfl, rfl, rfl, rfl⟩) (List.cons_ne_nil _ _)
  intro n m i rest h hn hm hr
  have hT : tmT (.node 10 name arg num tk tks uk uks label place [a]) = ky [102, 115, 116] :: tmAT 4 a := rfl
  rw [hT, List.cons_append] at h
  have hi := toksW_lt h
  have h1 := toksW_next h
  have tk0 := fun k s => tkW_toks h k s
  obtain ⟨m, rfl⟩ : ∃ q, m = q + 1 := ⟨m - 1, by omega⟩
  have f10 : tkW l i 3 ⟨#[102, 115, 116]⟩ = true := by rw [tk0]; rfl
  obtain ⟨a', j2, a1, a2, a3, a4⟩ := ra.r4 n m (i + 1) rest h1 (by omega) (by omega) hr
  exact ⟨tn 10 s0 s0 0 ty0 ty0 (placeW l i) [a'], j2, by rw [pUn, if_pos f10, a1, bindP_ok], by simp [tn, ty0, s0, cl, clL, nameK, argK, typeK, toK, a2], by omega, a4⟩
theorem rd_11 (l : List Wd) {name arg : ByteArray} {num tk : Int} {tks : List Ty} {uk : Int} {uks : List Ty} {label place : Int} {a : Tm} (ra : TmRd l a) : TmRd l (.node 11 name arg num tk tks uk uks label place [a]) := by
  refine asm4 rfl ?_ (fun rest => ⟨rfl, rfl, rfl, rfl, rfl⟩) (List.cons_ne_nil _ _)
  intro n m i rest h hn hm hr
  have hT : tmT (.node 11 name arg num tk tks uk uks label place [a]) = ky [115, 110, 100] :: tmAT 4 a := rfl
  rw [hT, List.cons_append] at h
  have hi := toksW_lt h
  have h1 := toksW_next h
  have tk0 := fun k s => tkW_toks h k s
  obtain ⟨m, rfl⟩ : ∃ q, m = q + 1 := ⟨m - 1, by omega⟩
  have f10 : tkW l i 3 ⟨#[102, 115, 116]⟩ = false := by rw [tk0]; rfl
  have f11 : tkW l i 3 ⟨#[115, 110, 100]⟩ = true := by rw [tk0]; rfl
  obtain ⟨a', j2, a1, a2, a3, a4⟩ := ra.r4 n m (i + 1) rest h1 (by omega) (by omega) hr
  exact ⟨tn 11 s0 s0 0 ty0 ty0 (placeW l i) [a'], j2, by rw [pUn, if_neg (by rw [f10]; decide), if_pos f11, a1, bindP_ok], by simp [tn, ty0, s0, cl, clL, nameK, argK, typeK, toK, a2], by omega, a4⟩
theorem rd_12 (l : List Wd) {name arg : ByteArray} {num tk : Int} {tks : List Ty} {uk : Int} {uks : List Ty} {label place : Int} {a : Tm} (ra : TmRd l a) (ht : tcheck (.node tk tks) = 0) : TmRd l (.node 12 name arg num tk tks uk uks label place [a]) := by
  refine asm4 rfl ?_ (fun rest => ⟨rfl, rfl, rfl, rfl, rfl⟩) (List.cons_ne_nil _ _)
  intro n m i rest h hn hm hr
  have hT : tmT (.node 12 name arg num tk tks uk uks label place [a]) = ky [105, 110, 108] :: sg [123] :: (tyT (.node tk tks) ++ sg [125] :: tmAT 4 a) := rfl
  rw [hT, List.cons_append, List.cons_append, List.append_assoc, List.cons_append] at h
  have hi := toksW_lt h
  have h1 := toksW_next h
  have tk0 := fun k s => tkW_toks h k s
  obtain ⟨m, rfl⟩ : ∃ q, m = q + 1 := ⟨m - 1, by omega⟩
  have f10 : tkW l i 3 ⟨#[102, 115, 116]⟩ = false := by rw [tk0]; rfl
  have f11 : tkW l i 3 ⟨#[115, 110, 100]⟩ = false := by rw [tk0]; rfl
  have f12 : tkW l i 3 ⟨#[105, 110, 108]⟩ = true := by rw [tk0]; rfl
  have m1 : mustP l 4 ⟨#[123]⟩ (i + 1) = .ok () (i + 1 + 1) := mustP_at h1
  obtain ⟨j, t1, t2, t3⟩ := typ_rd ht (toksW_next h1) rfl rfl rfl
  have m2 : mustP l 4 ⟨#[125]⟩ j = .ok () (j + 1) := mustP_at t3
  obtain ⟨a', j2, a1, a2, a3, a4⟩ := ra.r4 n m (j + 1) rest (toksW_next t3) (by omega) (by omega) hr
  exact ⟨tn 12 s0 s0 0 (.node tk tks) ty0 (placeW l i) [a'], j2, by rw [pUn, if_neg (by rw [f10]; decide), if_neg (by rw [f11]; decide), if_pos f12, inP, m1, bindP_ok, t1, bindP_ok, m2, bindP_ok, a1, bindP_ok], by simp [tn, ty0, s0, cl, clL, nameK, argK, typeK, toK, a2], by omega, a4⟩
theorem rd_13 (l : List Wd) {name arg : ByteArray} {num tk : Int} {tks : List Ty} {uk : Int} {uks : List Ty} {label place : Int} {a : Tm} (ra : TmRd l a) (ht : tcheck (.node tk tks) = 0) : TmRd l (.node 13 name arg num tk tks uk uks label place [a]) := by
  refine asm4 rfl ?_ (fun rest => ⟨rfl, rfl, rfl, rfl, rfl⟩) (List.cons_ne_nil _ _)
  intro n m i rest h hn hm hr
  have hT : tmT (.node 13 name arg num tk tks uk uks label place [a]) = ky [105, 110, 114] :: sg [123] :: (tyT (.node tk tks) ++ sg [125] :: tmAT 4 a) := rfl
  rw [hT, List.cons_append, List.cons_append, List.append_assoc, List.cons_append] at h
  have hi := toksW_lt h
  have h1 := toksW_next h
  have tk0 := fun k s => tkW_toks h k s
  obtain ⟨m, rfl⟩ : ∃ q, m = q + 1 := ⟨m - 1, by omega⟩
  have f10 : tkW l i 3 ⟨#[102, 115, 116]⟩ = false := by rw [tk0]; rfl
  have f11 : tkW l i 3 ⟨#[115, 110, 100]⟩ = false := by rw [tk0]; rfl
  have f12 : tkW l i 3 ⟨#[105, 110, 108]⟩ = false := by rw [tk0]; rfl
  have f13 : tkW l i 3 ⟨#[105, 110, 114]⟩ = true := by rw [tk0]; rfl
  have m1 : mustP l 4 ⟨#[123]⟩ (i + 1) = .ok () (i + 1 + 1) := mustP_at h1
  obtain ⟨j, t1, t2, t3⟩ := typ_rd ht (toksW_next h1) rfl rfl rfl
  have m2 : mustP l 4 ⟨#[125]⟩ j = .ok () (j + 1) := mustP_at t3
  obtain ⟨a', j2, a1, a2, a3, a4⟩ := ra.r4 n m (j + 1) rest (toksW_next t3) (by omega) (by omega) hr
  exact ⟨tn 13 s0 s0 0 (.node tk tks) ty0 (placeW l i) [a'], j2, by rw [pUn, if_neg (by rw [f10]; decide), if_neg (by rw [f11]; decide), if_neg (by rw [f12]; decide), if_pos f13, inP, m1, bindP_ok, t1, bindP_ok, m2, bindP_ok, a1, bindP_ok], by simp [tn, ty0, s0, cl, clL, nameK, argK, typeK, toK, a2], by omega, a4⟩
theorem rd_16 (l : List Wd) {name arg : ByteArray} {num tk : Int} {tks : List Ty} {uk : Int} {uks : List Ty} {label place : Int} {a : Tm} (ra : TmRd l a) (ht : tcheck (.node tk tks) = 0) : TmRd l (.node 16 name arg num tk tks uk uks label place [a]) := by
  have hT : tmT (.node 16 name arg num tk tks uk uks label place [a]) = tmAT 0 a ++ sg [58] :: tyT (.node tk tks) := rfl
  have hb : ∀ rest, NoB (tmT (.node 16 name arg num tk tks uk uks label place [a]) ++ rest) := fun rest => by rw [hT, List.append_assoc]; exact ra.nb 0 (by decide) _
  refine asm0 rfl ⟨hb, ?_⟩ hb (by rw [hT]; simp)
  intro n i rest h hn hr
  rw [hT, List.append_assoc, List.cons_append] at h
  obtain ⟨a', m, j, a1, a2, a3, a4, a5⟩ := ra.r0.2 n i _ h hn (notIn_tok rfl _)
  have hj := toksW_lt a5
  obtain ⟨j2, t1, t2, t3⟩ := typ_rd ht (toksW_next a5) (hr [42] (by simp [q0])) (hr [43] (by simp [q0])) (hr [45, 62] (by simp [q0]))
  exact ⟨tn 16 s0 s0 0 (.node tk tks) ty0 (placeW l j) [a'], m - 1, j2, by rw [a1, isLoop_go (by omega) (by rw [tkW_toks a5]; rfl) t1], by simp [tn, ty0, s0, cl, clL, nameK, argK, typeK, toK, a2], by omega, by omega, t3⟩
theorem opP_at {l : List Wd} {part : Nat → PR Tm} {t u : Tm} {i j : Nat} {s : ByteArray} {r : List Tk} (h : toksW l i = opT s :: r) (hp : part (i + 1) = .ok u j) : opP l part t i = .ok (tn 15 s s0 0 ty0 ty0 (placeW l i) [t, u]) j := by
  obtain ⟨w, hw, hx, hi, h1⟩ := toksW_cons h
  obtain ⟨wk, wt, wn, wp⟩ := w
  cases hx
  rw [opP, hp, bindP_ok, textW, hw, placeW, hw]
theorem rd_15_42 (l : List Wd) {arg : ByteArray} {num tk : Int} {tks : List Ty} {uk : Int} {uks : List Ty} {label place : Int} {a b : Tm} (ra : TmRd l a) (rb : TmRd l b) : TmRd l (.node 15 ⟨#[42]⟩ arg num tk tks uk uks label place [a, b]) := by
  have hT : tmT (.node 15 ⟨#[42]⟩ arg num tk tks uk uks label place [a, b]) = tmAT 3 a ++ opT ⟨#[42]⟩ :: tmAT 4 b := rfl
  refine asm3 rfl ?_ (fun rest => by rw [hT, List.append_assoc]; exact ra.nb 3 (by decide) _) (by rw [hT]; simp)
  intro n i rest h hn hr
  rw [hT, List.append_assoc, List.cons_append] at h
  obtain ⟨a', m, j, a1, a2, a3, a4, a5⟩ := ra.r3 n i _ h hn (notIn_tok rfl _)
  have hj := toksW_lt a5
  obtain ⟨b', j2, b1, b2, b3, b4⟩ := rb.r4 n (l.length + 1) (j + 1) rest (toksW_next a5) (by omega) (by omega) hr
  have io : isOp l [⟨#[42]⟩, ⟨#[47]⟩] j = true := by simp only [isOp, List.any_cons, List.any_nil, tkW_toks a5]; rfl
  exact ⟨(tn 15 ⟨#[42]⟩ s0 0 ty0 ty0 (placeW l j) [a', b']), m - 1, j2, by rw [a1, opLoop_go (by omega) io (opP_at (part := pU l (pTerm l n)) a5 b1)], by simp [tn, ty0, s0, cl, clL, nameK, argK, typeK, toK, a2, b2], by omega, by omega, b4⟩
theorem rd_15_47 (l : List Wd) {arg : ByteArray} {num tk : Int} {tks : List Ty} {uk : Int} {uks : List Ty} {label place : Int} {a b : Tm} (ra : TmRd l a) (rb : TmRd l b) : TmRd l (.node 15 ⟨#[47]⟩ arg num tk tks uk uks label place [a, b]) := by
  have hT : tmT (.node 15 ⟨#[47]⟩ arg num tk tks uk uks label place [a, b]) = tmAT 3 a ++ opT ⟨#[47]⟩ :: tmAT 4 b := rfl
  refine asm3 rfl ?_ (fun rest => by rw [hT, List.append_assoc]; exact ra.nb 3 (by decide) _) (by rw [hT]; simp)
  intro n i rest h hn hr
  rw [hT, List.append_assoc, List.cons_append] at h
  obtain ⟨a', m, j, a1, a2, a3, a4, a5⟩ := ra.r3 n i _ h hn (notIn_tok rfl _)
  have hj := toksW_lt a5
  obtain ⟨b', j2, b1, b2, b3, b4⟩ := rb.r4 n (l.length + 1) (j + 1) rest (toksW_next a5) (by omega) (by omega) hr
  have io : isOp l [⟨#[42]⟩, ⟨#[47]⟩] j = true := by simp only [isOp, List.any_cons, List.any_nil, tkW_toks a5]; rfl
  exact ⟨(tn 15 ⟨#[47]⟩ s0 0 ty0 ty0 (placeW l j) [a', b']), m - 1, j2, by rw [a1, opLoop_go (by omega) io (opP_at (part := pU l (pTerm l n)) a5 b1)], by simp [tn, ty0, s0, cl, clL, nameK, argK, typeK, toK, a2, b2], by omega, by omega, b4⟩
theorem rd_15_43 (l : List Wd) {arg : ByteArray} {num tk : Int} {tks : List Ty} {uk : Int} {uks : List Ty} {label place : Int} {a b : Tm} (ra : TmRd l a) (rb : TmRd l b) : TmRd l (.node 15 ⟨#[43]⟩ arg num tk tks uk uks label place [a, b]) := by
  have hT : tmT (.node 15 ⟨#[43]⟩ arg num tk tks uk uks label place [a, b]) = tmAT 2 a ++ opT ⟨#[43]⟩ :: tmAT 3 b := rfl
  refine asm2 rfl ?_ (fun rest => by rw [hT, List.append_assoc]; exact ra.nb 2 (by decide) _) (by rw [hT]; simp)
  intro n i rest h hn hr
  rw [hT, List.append_assoc, List.cons_append] at h
  obtain ⟨a', m, j, a1, a2, a3, a4, a5⟩ := ra.r2 n i _ h hn (notIn_tok rfl _)
  have hj := toksW_lt a5
  obtain ⟨b', m2, j2, b1, b2, b3, b4, b5⟩ := rb.r3 n (j + 1) rest (toksW_next a5) (by omega) (hr.sub (by simp [q4, q2]))
  have io : isOp l [⟨#[43]⟩, ⟨#[45]⟩] j = true := by simp only [isOp, List.any_cons, List.any_nil, tkW_toks a5]; rfl
  rw [opLoop_stop (ops := [⟨#[42]⟩, ⟨#[47]⟩]) (notIn_op (a := [42]) (b := [47]) b5 hr (by simp [q2]) (by simp [q2]))] at b1
  exact ⟨(tn 15 ⟨#[43]⟩ s0 0 ty0 ty0 (placeW l j) [a', b']), m - 1, j2, by rw [a1, opLoop_go (by omega) io (opP_at a5 b1)], by simp [tn, ty0, s0, cl, clL, nameK, argK, typeK, toK, a2, b2], by omega, by omega, b5⟩
theorem rd_15_45 (l : List Wd) {arg : ByteArray} {num tk : Int} {tks : List Ty} {uk : Int} {uks : List Ty} {label place : Int} {a b : Tm} (ra : TmRd l a) (rb : TmRd l b) : TmRd l (.node 15 ⟨#[45]⟩ arg num tk tks uk uks label place [a, b]) := by
  have hT : tmT (.node 15 ⟨#[45]⟩ arg num tk tks uk uks label place [a, b]) = tmAT 2 a ++ opT ⟨#[45]⟩ :: tmAT 3 b := rfl
  refine asm2 rfl ?_ (fun rest => by rw [hT, List.append_assoc]; exact ra.nb 2 (by decide) _) (by rw [hT]; simp)
  intro n i rest h hn hr
  rw [hT, List.append_assoc, List.cons_append] at h
  obtain ⟨a', m, j, a1, a2, a3, a4, a5⟩ := ra.r2 n i _ h hn (notIn_tok rfl _)
  have hj := toksW_lt a5
  obtain ⟨b', m2, j2, b1, b2, b3, b4, b5⟩ := rb.r3 n (j + 1) rest (toksW_next a5) (by omega) (hr.sub (by simp [q4, q2]))
  have io : isOp l [⟨#[43]⟩, ⟨#[45]⟩] j = true := by simp only [isOp, List.any_cons, List.any_nil, tkW_toks a5]; rfl
  rw [opLoop_stop (ops := [⟨#[42]⟩, ⟨#[47]⟩]) (notIn_op (a := [42]) (b := [47]) b5 hr (by simp [q2]) (by simp [q2]))] at b1
  exact ⟨(tn 15 ⟨#[45]⟩ s0 0 ty0 ty0 (placeW l j) [a', b']), m - 1, j2, by rw [a1, opLoop_go (by omega) io (opP_at a5 b1)], by simp [tn, ty0, s0, cl, clL, nameK, argK, typeK, toK, a2, b2], by omega, by omega, b5⟩
theorem rd_15_60 (l : List Wd) {arg : ByteArray} {num tk : Int} {tks : List Ty} {uk : Int} {uks : List Ty} {label place : Int} {a b : Tm} (ra : TmRd l a) (rb : TmRd l b) : TmRd l (.node 15 ⟨#[60]⟩ arg num tk tks uk uks label place [a, b]) := by
  have hT : tmT (.node 15 ⟨#[60]⟩ arg num tk tks uk uks label place [a, b]) = tmAT 2 a ++ opT ⟨#[60]⟩ :: tmAT 2 b := rfl
  refine asm1 rfl ?_ (fun rest => by rw [hT, List.append_assoc]; exact ra.nb 2 (by decide) _) (by rw [hT]; simp)
  intro n i rest h hn hr
  rw [hT, List.append_assoc, List.cons_append] at h
  obtain ⟨a', m, j, a1, a2, a3, a4, a5⟩ := ra.r2 n i _ h hn (notIn_tok rfl _)
  have hj := toksW_lt a5
  obtain ⟨b', m2, j2, b1, b2, b3, b4, b5⟩ := rb.r2 n (j + 1) rest (toksW_next a5) (by omega) (hr.sub (by simp [q2, q0]))
  have io : isOp l [⟨#[60]⟩, ⟨#[61]⟩] j = true := by simp only [isOp, List.any_cons, List.any_nil, tkW_toks a5]; rfl
  rw [opLoop_stop (ops := [⟨#[43]⟩, ⟨#[45]⟩]) (notIn_op (a := [43]) (b := [45]) b5 hr (by simp [q0]) (by simp [q0]))] at b1
  have no : isOp l [⟨#[43]⟩, ⟨#[45]⟩] j = false := by simp only [isOp, List.any_cons, List.any_nil, tkW_toks a5]; rfl
  rw [opLoop_stop no] at a1
  exact ⟨(tn 15 ⟨#[60]⟩ s0 0 ty0 ty0 (placeW l j) [a', b']), j2, by rw [pCmp, a1, bindP_ok, if_pos io, opP_at a5 b1], by simp [tn, ty0, s0, cl, clL, nameK, argK, typeK, toK, a2, b2], by omega, b5⟩
theorem rd_15_61 (l : List Wd) {arg : ByteArray} {num tk : Int} {tks : List Ty} {uk : Int} {uks : List Ty} {label place : Int} {a b : Tm} (ra : TmRd l a) (rb : TmRd l b) : TmRd l (.node 15 ⟨#[61]⟩ arg num tk tks uk uks label place [a, b]) := by
  have hT : tmT (.node 15 ⟨#[61]⟩ arg num tk tks uk uks label place [a, b]) = tmAT 2 a ++ opT ⟨#[61]⟩ :: tmAT 2 b := rfl
  refine asm1 rfl ?_ (fun rest => by rw [hT, List.append_assoc]; exact ra.nb 2 (by decide) _) (by rw [hT]; simp)
  intro n i rest h hn hr
  rw [hT, List.append_assoc, List.cons_append] at h
  obtain ⟨a', m, j, a1, a2, a3, a4, a5⟩ := ra.r2 n i _ h hn (notIn_tok rfl _)
  have hj := toksW_lt a5
  obtain ⟨b', m2, j2, b1, b2, b3, b4, b5⟩ := rb.r2 n (j + 1) rest (toksW_next a5) (by omega) (hr.sub (by simp [q2, q0]))
  have io : isOp l [⟨#[60]⟩, ⟨#[61]⟩] j = true := by simp only [isOp, List.any_cons, List.any_nil, tkW_toks a5]; rfl
  rw [opLoop_stop (ops := [⟨#[43]⟩, ⟨#[45]⟩]) (notIn_op (a := [43]) (b := [45]) b5 hr (by simp [q0]) (by simp [q0]))] at b1
  have no : isOp l [⟨#[43]⟩, ⟨#[45]⟩] j = false := by simp only [isOp, List.any_cons, List.any_nil, tkW_toks a5]; rfl
  rw [opLoop_stop no] at a1
  exact ⟨(tn 15 ⟨#[61]⟩ s0 0 ty0 ty0 (placeW l j) [a', b']), j2, by rw [pCmp, a1, bindP_ok, if_pos io, opP_at a5 b1], by simp [tn, ty0, s0, cl, clL, nameK, argK, typeK, toK, a2, b2], by omega, b5⟩
theorem rd_4 (l : List Wd) {name arg : ByteArray} {num tk : Int} {tks : List Ty} {uk : Int} {uks : List Ty} {label place : Int} {a : Tm} (ra : TmRd l a) (ht : tcheck (.node tk tks) = 0) : TmRd l (.node 4 name arg num tk tks uk uks label place [a]) := by
  have hT : tmT (.node 4 name arg num tk tks uk uks label place [a]) = sg [92] :: nmT name :: sg [58] :: (tyT (.node tk tks) ++ sg [46] :: tmAT (-1) a) := rfl
  refine asmm rfl ?_ (List.cons_ne_nil _ _)
  intro n i rest h hn hr
  rw [hT] at h
  simp only [List.cons_append, List.append_assoc] at h
  have hi := toksW_lt h
  have h1 := toksW_next h
  have tk0 := fun k s => tkW_toks h k s
  obtain ⟨n, rfl⟩ : ∃ q, n = q + 1 := ⟨n - 1, by omega⟩
  have f0 : tkW l i 4 ⟨#[92]⟩ = true := by rw [tk0]; rfl
  have e1 : nameP l (i + 1) = .ok name ((i + 1) + 1) := nameP_toks h1
  have h2 := toksW_next h1
  have e2 : mustP l 4 ⟨#[58]⟩ ((i + 1) + 1) = .ok () ((i + 1) + 1 + 1) := mustP_at h2
  obtain ⟨j, e3, t2, t3⟩ := typ_rd ht (toksW_next h2) rfl rfl rfl
  have e4 : mustP l 4 ⟨#[46]⟩ j = .ok () (j + 1) := mustP_at t3
  obtain ⟨a', j2, a1, a2, a3, a4⟩ := ra.rm n (j + 1) rest (toksW_next t3) (by omega) hr
  exact ⟨tn 4 name s0 0 (.node tk tks) ty0 (placeW l i) [a'], j2, by rw [pTerm, pStep, if_pos f0]; simp only [lamP, annP, e1, e2, e3, e4, a1, bindP_ok], by simp [tn, ty0, s0, cl, clL, nameK, argK, typeK, toK, a2], by omega, a4⟩
theorem rd_7 (l : List Wd) {name arg : ByteArray} {num tk : Int} {tks : List Ty} {uk : Int} {uks : List Ty} {label place : Int} {a b : Tm} (ra : TmRd l a) (rb : TmRd l b) (ht : tcheck (.node tk tks) = 0) : TmRd l (.node 7 name arg num tk tks uk uks label place [a, b]) := by
  have hT : tmT (.node 7 name arg num tk tks uk uks label place [a, b]) = ky [108, 101, 116] :: nmT name :: sg [58] :: (tyT (.node tk tks) ++ sg [61] :: (tmAT (-1) a ++ ky [105, 110] :: tmAT (-1) b)) := rfl
  refine asmm rfl ?_ (List.cons_ne_nil _ _)
  intro n i rest h hn hr
  rw [hT] at h
  simp only [List.cons_append, List.append_assoc] at h
  have hi := toksW_lt h
  have h1 := toksW_next h
  have tk0 := fun k s => tkW_toks h k s
  obtain ⟨n, rfl⟩ : ∃ q, n = q + 1 := ⟨n - 1, by omega⟩
  have f0 : tkW l i 4 ⟨#[92]⟩ = false := by rw [tk0]; rfl
  have f1 : tkW l i 3 ⟨#[108, 101, 116]⟩ = true := by rw [tk0]; rfl
  have e1 : nameP l (i + 1) = .ok name ((i + 1) + 1) := nameP_toks h1
  have h2 := toksW_next h1
  have e2 : mustP l 4 ⟨#[58]⟩ ((i + 1) + 1) = .ok () ((i + 1) + 1 + 1) := mustP_at h2
  obtain ⟨j, e3, t2, t3⟩ := typ_rd ht (toksW_next h2) rfl rfl rfl
  have e4 : mustP l 4 ⟨#[61]⟩ j = .ok () (j + 1) := mustP_at t3
  obtain ⟨a', j2, a1, a2, a3, a4⟩ := ra.rm n (j + 1) _ (toksW_next t3) (by omega) (notIn_tok rfl _)
  have e5 : mustP l 3 ⟨#[105, 110]⟩ j2 = .ok () (j2 + 1) := mustP_at a4
  obtain ⟨b', j3, b1, b2, b3, b4⟩ := rb.rm n (j2 + 1) rest (toksW_next a4) (by omega) hr
  exact ⟨tn 7 name s0 0 (.node tk tks) ty0 (placeW l i) [a', b'], j3, by rw [pTerm, pStep, if_neg (by rw [f0]; decide), if_pos f1]; simp only [letP, annP, e1, e2, e3, e4, e5, a1, b1, bindP_ok], by simp [tn, ty0, s0, cl, clL, nameK, argK, typeK, toK, a2, b2], by omega, b4⟩
theorem rd_8 (l : List Wd) {name arg : ByteArray} {num tk : Int} {tks : List Ty} {uk : Int} {uks : List Ty} {label place : Int} {a b c : Tm} (ra : TmRd l a) (rb : TmRd l b) (rc : TmRd l c) : TmRd l (.node 8 name arg num tk tks uk uks label place [a, b, c]) := by
  have hT : tmT (.node 8 name arg num tk tks uk uks label place [a, b, c]) = ky [105, 102] :: (tmAT (-1) a ++ ky [116, 104, 101, 110] :: (tmAT (-1) b ++ ky [101, 108, 115, 101] :: tmAT (-1) c)) := rfl
  refine asmm rfl ?_ (List.cons_ne_nil _ _)
  intro n i rest h hn hr
  rw [hT] at h
  simp only [List.cons_append, List.append_assoc] at h
  have hi := toksW_lt h
  have h1 := toksW_next h
  have tk0 := fun k s => tkW_toks h k s
  obtain ⟨n, rfl⟩ : ∃ q, n = q + 1 := ⟨n - 1, by omega⟩
  have f0 : tkW l i 4 ⟨#[92]⟩ = false := by rw [tk0]; rfl
  have f1 : tkW l i 3 ⟨#[108, 101, 116]⟩ = false := by rw [tk0]; rfl
  have f2 : tkW l i 3 ⟨#[105, 102]⟩ = true := by rw [tk0]; rfl
  obtain ⟨a', j, a1, a2, a3, a4⟩ := ra.rm n (i + 1) _ h1 (by omega) (notIn_tok rfl _)
  have e4 : mustP l 3 ⟨#[116, 104, 101, 110]⟩ j = .ok () (j + 1) := mustP_at a4
  obtain ⟨b', j2, b1, b2, b3, b4⟩ := rb.rm n (j + 1) _ (toksW_next a4) (by omega) (notIn_tok rfl _)
  have e5 : mustP l 3 ⟨#[101, 108, 115, 101]⟩ j2 = .ok () (j2 + 1) := mustP_at b4
  obtain ⟨c', j3, c1, c2, c3, c4⟩ := rc.rm n (j2 + 1) rest (toksW_next b4) (by omega) hr
  exact ⟨tn 8 s0 s0 0 ty0 ty0 (placeW l i) [a', b', c'], j3, by rw [pTerm, pStep, if_neg (by rw [f0]; decide), if_neg (by rw [f1]; decide), if_pos f2]; simp only [ifP, e4, e5, a1, b1, c1, bindP_ok], by simp [tn, ty0, s0, cl, clL, nameK, argK, typeK, toK, a2, b2, c2], by omega, c4⟩
theorem rd_5 (l : List Wd) {name arg : ByteArray} {num tk : Int} {tks : List Ty} {uk : Int} {uks : List Ty} {label place : Int} {a : Tm} (ra : TmRd l a) (ht : tcheck (.node tk tks) = 0) (hu : tcheck (.node uk uks) = 0) : TmRd l (.node 5 name arg num tk tks uk uks label place [a]) := by
  have hT : tmT (.node 5 name arg num tk tks uk uks label place [a]) = ky [114, 101, 99] :: nmT name :: sg [40] :: nmT arg :: sg [58] :: (tyT (.node tk tks) ++ sg [41] :: sg [58] :: (tyT (.node uk uks) ++ sg [46] :: tmAT (-1) a)) := rfl
  refine asmm rfl ?_ (List.cons_ne_nil _ _)
  intro n i rest h hn hr
  rw [hT] at h
  simp only [List.cons_append, List.append_assoc] at h
  have hi := toksW_lt h
  have h1 := toksW_next h
  have tk0 := fun k s => tkW_toks h k s
  obtain ⟨n, rfl⟩ : ∃ q, n = q + 1 := ⟨n - 1, by omega⟩
  have f0 : tkW l i 4 ⟨#[92]⟩ = false := by rw [tk0]; rfl
  have f1 : tkW l i 3 ⟨#[108, 101, 116]⟩ = false := by rw [tk0]; rfl
  have f2 : tkW l i 3 ⟨#[105, 102]⟩ = false := by rw [tk0]; rfl
  have f3 : tkW l i 3 ⟨#[114, 101, 99]⟩ = true := by rw [tk0]; rfl
  have e0 : nameP l (i + 1) = .ok name (i + 1 + 1) := nameP_toks h1
  have h1b := toksW_next h1
  have e00 : mustP l 4 ⟨#[40]⟩ (i + 1 + 1) = .ok () (i + 1 + 1 + 1) := mustP_at h1b
  have h1c := toksW_next h1b
  have e1 : nameP l (i + 1 + 1 + 1) = .ok arg ((i + 1 + 1 + 1) + 1) := nameP_toks h1c
  have h2 := toksW_next h1c
  have e2 : mustP l 4 ⟨#[58]⟩ ((i + 1 + 1 + 1) + 1) = .ok () ((i + 1 + 1 + 1) + 1 + 1) := mustP_at h2
  obtain ⟨j, e3, t2, t3⟩ := typ_rd ht (toksW_next h2) rfl rfl rfl
  have e4 : mustP l 4 ⟨#[41]⟩ j = .ok () (j + 1) := mustP_at t3
  have t4 := toksW_next t3
  have e5 : mustP l 4 ⟨#[58]⟩ (j + 1) = .ok () (j + 1 + 1) := mustP_at t4
  obtain ⟨j2, e6, u2, u3⟩ := typ_rd hu (toksW_next t4) rfl rfl rfl
  have e7 : mustP l 4 ⟨#[46]⟩ j2 = .ok () (j2 + 1) := mustP_at u3
  obtain ⟨a', j3, a1, a2, a3, a4⟩ := ra.rm n (j2 + 1) rest (toksW_next u3) (by omega) hr
  exact ⟨tn 5 name arg 0 (.node tk tks) (.node uk uks) (placeW l i) [a'], j3, by rw [pTerm, pStep, if_neg (by rw [f0]; decide), if_neg (by rw [f1]; decide), if_neg (by rw [f2]; decide), if_pos f3]; simp only [recP, annP, e0, e00, e1, e2, e3, e4, e5, e6, e7, a1, bindP_ok], by simp [tn, ty0, s0, cl, clL, nameK, argK, typeK, toK, a2], by omega, a4⟩
theorem rd_14 (l : List Wd) {name arg : ByteArray} {num tk : Int} {tks : List Ty} {uk : Int} {uks : List Ty} {label place : Int} {a b c : Tm} (ra : TmRd l a) (rb : TmRd l b) (rc : TmRd l c) : TmRd l (.node 14 name arg num tk tks uk uks label place [a, b, c]) := by
  have hT : tmT (.node 14 name arg num tk tks uk uks label place [a, b, c]) = ky [99, 97, 115, 101] :: (tmAT (-1) a ++ ky [111, 102] :: nmT name :: sg [46] :: (tmAT (-1) b ++ sg [124] :: nmT arg :: sg [46] :: tmAT (-1) c)) := rfl
  refine asmm rfl ?_ (List.cons_ne_nil _ _)
  intro n i rest h hn hr
  rw [hT] at h
  simp only [List.cons_append, List.append_assoc] at h
  have hi := toksW_lt h
  have h1 := toksW_next h
  have tk0 := fun k s => tkW_toks h k s
  obtain ⟨n, rfl⟩ : ∃ q, n = q + 1 := ⟨n - 1, by omega⟩
  have f0 : tkW l i 4 ⟨#[92]⟩ = false := by rw [tk0]; rfl
  have f1 : tkW l i 3 ⟨#[108, 101, 116]⟩ = false := by rw [tk0]; rfl
  have f2 : tkW l i 3 ⟨#[105, 102]⟩ = false := by rw [tk0]; rfl
  have f3 : tkW l i 3 ⟨#[114, 101, 99]⟩ = false := by rw [tk0]; rfl
  have f4 : tkW l i 3 ⟨#[99, 97, 115, 101]⟩ = true := by rw [tk0]; rfl
  obtain ⟨a', j, a1, a2, a3, a4⟩ := ra.rm n (i + 1) _ h1 (by omega) (notIn_tok rfl _)
  have e4 : mustP l 3 ⟨#[111, 102]⟩ j = .ok () (j + 1) := mustP_at a4
  have a5 := toksW_next a4
  have e5 : nameP l (j + 1) = .ok name (j + 1 + 1) := nameP_toks a5
  have a6 := toksW_next a5
  have e6 : mustP l 4 ⟨#[46]⟩ (j + 1 + 1) = .ok () (j + 1 + 1 + 1) := mustP_at a6
  obtain ⟨b', j2, b1, b2, b3, b4⟩ := rb.rm n (j + 1 + 1 + 1) _ (toksW_next a6) (by omega) (notIn_tok rfl _)
  have e7 : mustP l 4 ⟨#[124]⟩ j2 = .ok () (j2 + 1) := mustP_at b4
  have b5 := toksW_next b4
  have e8 : nameP l (j2 + 1) = .ok arg (j2 + 1 + 1) := nameP_toks b5
  have b6 := toksW_next b5
  have e9 : mustP l 4 ⟨#[46]⟩ (j2 + 1 + 1) = .ok () (j2 + 1 + 1 + 1) := mustP_at b6
  obtain ⟨c', j3, c1, c2, c3, c4⟩ := rc.rm n (j2 + 1 + 1 + 1) rest (toksW_next b6) (by omega) hr
  exact ⟨tn 14 name arg 0 ty0 ty0 (placeW l i) [a', b', c'], j3, by rw [pTerm, pStep, if_neg (by rw [f0]; decide), if_neg (by rw [f1]; decide), if_neg (by rw [f2]; decide), if_neg (by rw [f3]; decide), if_pos f4]; simp only [caseP, branchP, e4, e5, e6, e7, e8, e9, a1, b1, c1, bindP_ok], by simp [tn, ty0, s0, cl, clL, nameK, argK, typeK, toK, a2, b2, c2], by omega, c4⟩
end Go.Proofs.YtmaokphbfjpodaaGreatDoor.E

/- Any term that may be told is read as it is told, in plain Lean. No conditions. -/
set_option linter.unusedVariables false
set_option linter.unusedSimpArgs false
namespace Go.Proofs.YtmaokphbfjpodaaGreatDoor.E
open Go

theorem op_names {k name arg num tk tks uk uks label place ks} (h : tmright (.node k name arg num tk tks uk uks label place ks) = true) (hk : k = 15) : name = ⟨#[43]⟩ ∨ name = ⟨#[45]⟩ ∨ name = ⟨#[42]⟩ ∨ name = ⟨#[47]⟩ ∨ name = ⟨#[60]⟩ ∨ name = ⟨#[61]⟩ := by
  subst hk
  simp only [tmright, ownRight, Bool.and_eq_true, Bool.or_eq_true, Bool.not_eq_true'] at h
  have h2 : opF name = true := by
    rcases h.1.2 with q | q
    · exact absurd q (by decide)
    · exact q
  simp only [opF, opsF, List.any_cons, List.any_nil, Bool.or_eq_true, decide_eq_true_eq, Bool.or_false] at h2
  exact h2
theorem tm_rd (l : List Wd) (t : Tm) : tmright t = true → tmInR t → tmBad t = false → TmRd l t := by
  induction t using Tm.ind with
  | _ k name arg num tk tks uk uks label place ks ih =>
  intro hr hn hb
  obtain ⟨b1, b2, b3⟩ := tmBad_own hb
  have hv := tmright_valid hr
  have hl := tmright_len hr
  have ho := tmright_own hr
  have hop := op_names hr
  have hk : ∀ t ∈ ks, TmRd l t := fun t ht => ih t ht (tmright_kid hr ht) (tmInRs_mem ks t ht hn.2) (tmBads_mem' b3 ht)
  have hn1 : NumR num := hn.1
  unfold NumR at hn1
  clear ih hb b3 hn hr
  rcases kinds k hv with rfl | rfl | rfl | rfl | rfl | rfl | rfl | rfl | rfl | rfl | rfl | rfl | rfl | rfl | rfl | rfl | rfl | rfl
  · obtain rfl := len0 hl; exact rd_0 l
  · obtain rfl := len0 hl; exact rd_1 l ⟨by have := b2 rfl; omega, hn1.2⟩
  · obtain rfl := len0 hl; exact rd_2 l
  · obtain rfl := len0 hl; exact rd_3 l
  · obtain ⟨x, rfl⟩ := len1 hl; exact rd_4 l (hk x (by simp)) (ho.1 rfl)
  · obtain ⟨x, rfl⟩ := len1 hl; exact rd_5 l (hk x (by simp)) (ho.1 rfl) (ho.2 rfl)
  · obtain ⟨x, y, rfl⟩ := len2' hl; exact rd_6 l (hk x (by simp)) (hk y (by simp))
  · obtain ⟨x, y, rfl⟩ := len2' hl; exact rd_7 l (hk x (by simp)) (hk y (by simp)) (ho.1 rfl)
  · obtain ⟨x, y, z, rfl⟩ := len3 hl; exact rd_8 l (hk x (by simp)) (hk y (by simp)) (hk z (by simp))
  · obtain ⟨x, y, rfl⟩ := len2' hl; exact rd_9 l (hk x (by simp)) (hk y (by simp))
  · obtain ⟨x, rfl⟩ := len1 hl; exact rd_10 l (hk x (by simp))
  · obtain ⟨x, rfl⟩ := len1 hl; exact rd_11 l (hk x (by simp))
  · obtain ⟨x, rfl⟩ := len1 hl; exact rd_12 l (hk x (by simp)) (ho.1 rfl)
  · obtain ⟨x, rfl⟩ := len1 hl; exact rd_13 l (hk x (by simp)) (ho.1 rfl)
  · obtain ⟨x, y, z, rfl⟩ := len3 hl; exact rd_14 l (hk x (by simp)) (hk y (by simp)) (hk z (by simp))
  · obtain ⟨x, y, rfl⟩ := len2' hl
    have hx := hk x (by simp)
    have hy := hk y (by simp)
    rcases hop rfl with rfl | rfl | rfl | rfl | rfl | rfl
    · exact rd_15_43 l hx hy
    · exact rd_15_45 l hx hy
    · exact rd_15_42 l hx hy
    · exact rd_15_47 l hx hy
    · exact rd_15_60 l hx hy
    · exact rd_15_61 l hx hy
  · obtain ⟨x, rfl⟩ := len1 hl; exact rd_16 l (hk x (by simp)) (ho.1 rfl)
  · exact absurd rfl b1
/-- The words of what is told are read as what was told. -/
theorem words_rd {l : List Wd} {t : Tm} (hr : tmright t = true) (hn : tmInR t) (hb : tmBad t = false) {e : Tk} (he : toksW l 0 = tmAT (-1) t ++ [e]) (hk : e.kind = 0) : ∃ t' j, pTerm l (l.length + 1) 0 = .ok t' j ∧ cl t' = cl t ∧ toksW l j = [e] := by
  obtain ⟨t', j, h1, h2, h3, h4⟩ := (tm_rd l t hr hn hb).rm (l.length + 1) 0 [e] he (by omega) (fun s hs => by
    rw [hdT_cons, hk]; simp)
  exact ⟨t', j, h1, h2, h4⟩
end Go.Proofs.YtmaokphbfjpodaaGreatDoor.E
