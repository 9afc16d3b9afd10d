/- The plain law: the document's rules and derive tell the same. No conditions. -/
import Derived.Test.YtlboogackecjlaaGreatGenX23
import Derived.Test.YtlboogackecjlaaGreatGenX14
set_option linter.unusedVariables false
set_option linter.unusedSimpArgs false
namespace Go.Proofs.YtlboogackecjlaaGreat.E
open Go

/-- R (by the document) and y (by the program) tell the same type, or none both. -/
def RY (R : Ty × Flt) (y : Ty × Bool) : Prop := (R.2.e = 0 ↔ y.2 = true) ∧ (y.2 = true → R.1 = y.1 ∧ tright R.1 = true)
theorem RY.fail {e p : Int} {y : Ty} (h : e ≠ 0) : RY (failM e p) (y, false) := ⟨by simp [failM, h], by simp⟩
theorem RY.ok {a : Ty} (h : tright a = true) : RY (a, flt0) (a, true) := ⟨by simp [flt0], fun _ => ⟨rfl, h⟩⟩
theorem RY.fine {a : Ty} (h : tright a = true) (p : Int) : RY (fineM a p) (a, decide (tcheck a = 0)) := by
  unfold fineM tcheck tdepth RY
  by_cases h1 : nodes a > 8192
  · simp [h1, failM]
  · by_cases h2 : deepF a 201 > 200
    · simp [h1, h2, failM]
    · simp [h1, h2, h, flt0]
theorem right_two {q : Int} (hq : q = 3 ∨ q = 4 ∨ q = 5) {a b : Ty} (ha : tright a = true) (hb : tright b = true) : tright (.node q [a, b]) = true := by
  rcases hq with rfl | rfl | rfl <;> simp [tright, trights, ha, hb, parts]
theorem right_one {q : Int} (hq : q = 0 ∨ q = 1 ∨ q = 2) : tright (.node q []) = true := by
  rcases hq with rfl | rfl | rfl <;> simp [tright, trights, parts]
theorem right_getD {k : Int} {ks : List Ty} (h : tright (.node k ks) = true) (i : Nat) : tright (ks.getD i unk) = true := by
  rw [List.getD_eq_getElem?_getD]
  cases hx : ks[i]? with
  | none => exact right_one (.inl rfl)
  | some x => exact tright_kid h (List.mem_of_getElem? hx)
theorem right_asL (q : Int) {a : Ty} (h : tright a = true) : tright (asL q a) = true := by
  obtain ⟨k, ks⟩ := a
  simp only [asL]
  split
  · exact right_getD h 0
  · exact right_one (.inl rfl)
theorem right_asR (q : Int) {a : Ty} (h : tright a = true) : tright (asR q a) = true := by
  obtain ⟨k, ks⟩ := a
  simp only [asR]
  split
  · exact right_getD h 1
  · exact right_one (.inl rfl)
theorem rest_ok (k : Int) (hk : k = 6 ∨ k = 8 ∨ k = 9 ∨ k = 10 ∨ k = 11 ∨ k = 12 ∨ k = 13 ∨ k = 15 ∨ k = 16) (name : ByteArray) {T U : Ty} (place : Int) {K : List Ty} (hT : k = 12 ∨ k = 13 ∨ k = 16 → tright T = true) (hK : ∀ i, tright (K.getD i unk) = true) :
    RY (restM k name T place K) (ruleM k name T U K) := by
  have h0 := hK 0
  have h1 := hK 1
  have h2 := hK 2
  rcases hk with rfl | rfl | rfl | rfl | rfl | rfl | rfl | rfl | rfl
  · simp only [restM, ruleM, Int.reduceEq, if_false, if_true, or_self]
    generalize K.getD 0 unk = a at *
    generalize K.getD 1 unk = b at *
    have hr := right_asR 3 h0
    cases asB 3 a <;> cases agreeS b (asL 3 a) <;> simp only [Bool.true_and, Bool.false_and, Bool.true_eq_false, if_true, if_false] <;> first | exact .fail (by decide) | exact .ok hr
  · simp only [restM, ruleM, Int.reduceEq, if_false, if_true, or_self]
    generalize K.getD 0 unk = a at *
    generalize K.getD 1 unk = b at *
    generalize K.getD 2 unk = c at *
    have hm := RY.fine (Meet_right b c) place
    cases agreeS a (.node 2 []) <;> cases agreeS b c <;> simp only [Bool.true_and, Bool.false_and, Bool.true_eq_false, if_true, if_false] <;> first | exact .fail (by decide) | exact hm
  · simp only [restM, ruleM, Int.reduceEq, if_false, if_true, or_self, ofB]
    exact .fine (right_two (by simp) h0 h1) place
  · simp only [restM, ruleM, Int.reduceEq, if_false, if_true, or_self]
    have hr := right_asL 4 h0
    cases asB 4 (K.getD 0 unk) <;> simp only [Bool.true_eq_false, if_true, if_false] <;> first | exact .fail (by decide) | exact .ok hr
  · simp only [restM, ruleM, Int.reduceEq, if_false, if_true, or_self]
    have hr := right_asR 4 h0
    cases asB 4 (K.getD 0 unk) <;> simp only [Bool.true_eq_false, if_true, if_false] <;> first | exact .fail (by decide) | exact .ok hr
  · have hT := hT (by simp)
    simp only [restM, lastM, ruleM, Int.reduceEq, if_false, if_true, or_self, true_or, or_true, ofB]
    have hm := RY.fine (right_two (q := 5) (by simp) (right_asL 5 hT) (right_asR 5 hT)) place
    cases asB 5 T <;> cases agreeS (K.getD 0 unk) (asL 5 T) <;> simp only [Bool.true_and, Bool.false_and, Bool.true_eq_false, Bool.false_eq_true, if_true, if_false] <;> first | exact .fail (by decide) | exact hm
  · have hT := hT (by simp)
    simp only [restM, lastM, ruleM, Int.reduceEq, if_false, if_true, or_self, true_or, or_true, ofB]
    have hm := RY.fine (right_two (q := 5) (by simp) (right_asL 5 hT) (right_asR 5 hT)) place
    cases asB 5 T <;> cases agreeS (K.getD 0 unk) (asR 5 T) <;> simp only [Bool.true_and, Bool.false_and, Bool.true_eq_false, Bool.false_eq_true, if_true, if_false] <;> first | exact .fail (by decide) | exact hm
  · simp only [restM, lastM, ruleM, Int.reduceEq, if_false, if_true, or_self]
    cases agreeS (K.getD 0 unk) (.node 1 []) <;> cases agreeS (K.getD 1 unk) (.node 1 []) <;> simp only [Bool.true_and, Bool.false_and, Bool.and_true, Bool.and_false, Bool.true_eq_false, if_true, if_false] <;> first | exact .fail (by decide) | (split <;> exact .ok (right_one (by simp)))
  · have hT := hT (by simp)
    simp only [restM, lastM, ruleM, Int.reduceEq, if_false, if_true, or_self]
    cases agreeS (K.getD 0 unk) T <;> simp only [Bool.true_eq_false, if_true, if_false] <;> first | exact .fail (by decide) | exact .ok hT
theorem drvF_fail {k : Int} {name : ByteArray} {T U : Ty} {l : List Bd} {p : Option Pf} {z : List Pf × Bool} (h : z.2 = false) : (drvF k name T U l p z).2 = false := by simp [drvF, h]
theorem drvF_ok {k : Int} (hk : k ≠ 0) (name : ByteArray) (T U : Ty) (l : List Bd) (L : List Pf) : drvF k name T U l none (L, true) = (.node (ruleN k) (ruleM k name T U (L.map Pf.ty)).1 L, (ruleM k name T U (L.map Pf.ty)).2) := by
  simp [drvF, hk]
/-- The document's and the program's derivation of a term are one. -/
def RD1 (t : Tm) (l : List Bd) : Prop := ((rul t l).2.e = 0 ↔ (drv t l none).2 = true) ∧ ((drv t l none).2 = true → (rul t l).1 = (drv t l none).1.ty ∧ dvd t l = (drv t l none).1 ∧ tright (rul t l).1 = true)
theorem rights_snoc {l : List Bd} (h : ∀ b ∈ l, tright b.a = true) (s : ByteArray) {a : Ty} (ha : tright a = true) : ∀ b ∈ l ++ [⟨s, a⟩], tright b.a = true := fun b hb => by
  rcases List.mem_append.1 hb with hb | hb
  · exact h b hb
  · simp at hb; subst hb; exact ha
theorem findB_mem {l : List Bd} {s : ByteArray} {a : Ty} (h : findB l s = some a) : ∃ b ∈ l, b.a = a := by
  unfold findB at h
  cases hf : l.reverse.find? fun b => decide (b.name = s) with
  | none => rw [hf] at h; cases h
  | some b => rw [hf] at h; exact ⟨b, List.mem_reverse.1 (List.mem_of_find?_eq_some hf), Option.some.inj h⟩
theorem ownright_type {k : Int} {name arg : ByteArray} {num tk : Int} {tks : List Ty} {uk : Int} {uks : List Ty} {label place : Int} {ks : List Tm} (h : tmright (.node k name arg num tk tks uk uks label place ks) = true) :
    (typeK k = true → tright (.node tk tks) = true) ∧ (toK k = true → tright (.node uk uks) = true) := tmtype_right h
set_option maxHeartbeats 4000000 in
theorem rul_drv (t : Tm) : tmright t = true → tmhas 17 t = false → ∀ l : List Bd, (∀ b ∈ l, tright b.a = true) → RD1 t l := by
  induction t using Tm.ind with
  | _ k name arg num tk tks uk uks label place ks ih =>
  intro hr h17 l hl
  have h17' : ¬ k = 17 ∧ tmhass 17 ks = false := by simpa [tmhas] using h17
  have hv : 0 ≤ k ∧ k ≤ 17 := by simpa [validK] using tmright_valid hr
  have hn := tmright_len hr
  obtain ⟨hT, hU⟩ := ownright_type hr
  have hc : ∀ t ∈ ks, ∀ l' : List Bd, (∀ b ∈ l', tright b.a = true) → RD1 t l' := fun t ht l' hl' => by
    refine ih t ht (tmright_kid hr ht) ?_ l' hl'
    cases e : tmhas 17 t with
    | false => rfl
    | true => rw [tmhass_mem 17 ks t ht e] at h17'; exact absurd h17'.2 (by simp)
  clear ih h17 hr
  rcases (by omega : k = 0 ∨ k = 1 ∨ k = 2 ∨ k = 3 ∨ k = 4 ∨ k = 5 ∨ k = 6 ∨ k = 7 ∨ k = 8 ∨ k = 9 ∨ k = 10 ∨ k = 11 ∨ k = 12 ∨ k = 13 ∨ k = 14 ∨ k = 15 ∨ k = 16) with rfl | rfl | rfl | rfl | rfl | rfl | rfl | rfl | rfl | rfl | rfl | rfl | rfl | rfl | rfl | rfl | rfl
  · obtain rfl := len0 (show (0 : Int) = ks.length from hn)
    unfold RD1
    cases h : findB l name with
    | none => simp [rul, rulB, drv, pbad, drvs, drvF, h]
    | some a =>
      obtain ⟨b, hb, rfl⟩ := findB_mem h
      have ha := hl b hb
      simp [rul, rulB, drv, pbad, drvs, drvF, h, flt0, Pf.ty, dvd, dvds, ha]
  · obtain rfl := len0 (show (0 : Int) = ks.length from hn)
    unfold RD1
    simp [rul, ruls, rulB, drv, pbad, drvs, drvF, ruleM, flt0, Pf.ty, dvd, dvds, right_one]
  · obtain rfl := len0 (show (0 : Int) = ks.length from hn)
    unfold RD1
    simp [rul, ruls, rulB, drv, pbad, drvs, drvF, ruleM, flt0, Pf.ty, dvd, dvds, right_one]
  · obtain rfl := len0 (show (0 : Int) = ks.length from hn)
    unfold RD1
    simp [rul, ruls, rulB, drv, pbad, drvs, drvF, ruleM, flt0, Pf.ty, dvd, dvds, right_one]
  · obtain ⟨t0, rfl⟩ := len1 (show (1 : Int) = ks.length from hn)
    have hT : tright (.node tk tks) = true := hT (by decide)
    have hi0 : ∀ a, innerM 4 name arg (.node tk tks) (.node uk uks) l 0 a = l ++ [⟨name, .node tk tks⟩] := fun a => by simp [innerM]
    have H0 := hc t0 (by simp) (l ++ [⟨name, .node tk tks⟩]) (rights_snoc hl _ hT)
    unfold RD1 at H0 ⊢
    have hd : drv (.node 4 name arg num tk tks uk uks label place [t0]) l none = drvF 4 name (.node tk tks) (.node uk uks) l none (drvs 4 name arg (.node tk tks) (.node uk uks) l none [t0] 0 unk) := by simp [drv, pbad]
    rw [hd]
    clear hd
    by_cases b0 : (drv t0 (l ++ [⟨name, .node tk tks⟩]) none).2 = true
    · obtain ⟨g0, gd0, hq0⟩ := H0.2 b0
      have z0 : (rul t0 (l ++ [⟨name, .node tk tks⟩])).2.e = 0 := H0.1.2 b0
      have hs : drvs 4 name arg (.node tk tks) (.node uk uks) l none [t0] 0 unk = ([(drv t0 (l ++ [⟨name, .node tk tks⟩]) none).1], true) := by simp [drvs, pkid, hi0, b0]
      rw [hs, drvF_ok (by decide)]
      have hD : dvds 4 name arg (.node tk tks) (.node uk uks) l (rul t0 l).1 [t0] 0 = [(drv t0 (l ++ [⟨name, .node tk tks⟩]) none).1] := by simp [dvds, hi0, gd0]
      have hR : rul (.node 4 name arg num tk tks uk uks label place [t0]) l = fineM (.node 3 [.node tk tks, (rul t0 (l ++ [⟨name, .node tk tks⟩])).1]) place := by simp [rul, ruls, rulB, othM, firstF, flt0, z0]
      have hY : RY (fineM (.node 3 [.node tk tks, (rul t0 (l ++ [⟨name, .node tk tks⟩])).1]) place) (ruleM 4 name (.node tk tks) (.node uk uks) [(rul t0 (l ++ [⟨name, .node tk tks⟩])).1]) := by
        simp only [ruleM, Int.reduceEq, if_false, if_true, or_self, List.getD_cons_zero, ofB]
        exact .fine (right_two (by simp) hT hq0) place
      have hm : [(drv t0 (l ++ [⟨name, .node tk tks⟩]) none).1].map Pf.ty = [(rul t0 (l ++ [⟨name, .node tk tks⟩])).1] := by simp only [List.map_cons, List.map_nil, ← g0]
      rw [dvd, hR, hm]
      simp only [ruls, List.getD_cons_zero, hD, Pf.ty]
      exact ⟨hY.1, fun h => ⟨(hY.2 h).1, by rw [(hY.2 h).1], (hY.2 h).2⟩⟩
    · have hz : ¬ (rul t0 (l ++ [⟨name, .node tk tks⟩])).2.e = 0 := fun h => b0 (H0.1.1 h)
      have hs : (drvs 4 name arg (.node tk tks) (.node uk uks) l none [t0] 0 unk).2 = false := by simp [drvs, pkid, hi0, b0]
      rw [drvF_fail hs]
      simp [rul, ruls, rulB, othM, firstF, flt0, hz]
  · obtain ⟨t0, rfl⟩ := len1 (show (1 : Int) = ks.length from hn)
    have hT : tright (.node tk tks) = true := hT (by decide)
    have hU : tright (.node uk uks) = true := hU (by decide)
    obtain ⟨L5, hL5⟩ : ∃ L, l ++ [⟨name, .node 3 [.node tk tks, .node uk uks]⟩, ⟨arg, .node tk tks⟩] = L := ⟨_, rfl⟩
    have hR5 : ∀ b ∈ L5, tright b.a = true := by
      rw [← hL5, show l ++ [⟨name, .node 3 [.node tk tks, .node uk uks]⟩, ⟨arg, .node tk tks⟩] = l ++ [⟨name, .node 3 [.node tk tks, .node uk uks]⟩] ++ [⟨arg, .node tk tks⟩] by simp]
      exact rights_snoc (rights_snoc hl _ (right_two (by simp) hT hU)) _ hT
    have hi0 : ∀ a, innerM 5 name arg (.node tk tks) (.node uk uks) l 0 a = L5 := fun a => by simp [innerM, hL5]
    have H0 := hc t0 (by simp) (L5) (hR5)
    unfold RD1 at H0 ⊢
    have hd : drv (.node 5 name arg num tk tks uk uks label place [t0]) l none = drvF 5 name (.node tk tks) (.node uk uks) l none (drvs 5 name arg (.node tk tks) (.node uk uks) l none [t0] 0 unk) := by simp [drv, pbad]
    rw [hd]
    clear hd
    by_cases b0 : (drv t0 (L5) none).2 = true
    · obtain ⟨g0, gd0, hq0⟩ := H0.2 b0
      have z0 : (rul t0 (L5)).2.e = 0 := H0.1.2 b0
      have hs : drvs 5 name arg (.node tk tks) (.node uk uks) l none [t0] 0 unk = ([(drv t0 (L5) none).1], true) := by simp [drvs, pkid, hi0, b0]
      rw [hs, drvF_ok (by decide)]
      have hD : dvds 5 name arg (.node tk tks) (.node uk uks) l (rul t0 l).1 [t0] 0 = [(drv t0 (L5) none).1] := by simp [dvds, hi0, gd0]
      have hR : rul (.node 5 name arg num tk tks uk uks label place [t0]) l = (if agreeS (rul t0 (L5)).1 (.node uk uks) = false then failM 91 place else fineM (.node 3 [.node tk tks, .node uk uks]) place) := by simp [rul, ruls, rulB, othM, firstF, flt0, z0, hL5]
      have hY : RY ((if agreeS (rul t0 (L5)).1 (.node uk uks) = false then failM 91 place else fineM (.node 3 [.node tk tks, .node uk uks]) place)) (ruleM 5 name (.node tk tks) (.node uk uks) [(rul t0 (L5)).1]) := by
        simp only [ruleM, Int.reduceEq, if_false, if_true, or_self, List.getD_cons_zero, ofB]
        have hm := RY.fine (right_two (q := 3) (by simp) hT hU) place
        cases agreeS (rul t0 (L5)).1 (.node uk uks) <;> simp only [Bool.true_and, Bool.false_and, Bool.true_eq_false, Bool.false_eq_true, if_true, if_false] <;> first | exact .fail (by decide) | exact hm
      have hm : [(drv t0 (L5) none).1].map Pf.ty = [(rul t0 (L5)).1] := by simp only [List.map_cons, List.map_nil, ← g0]
      rw [dvd, hR, hm]
      simp only [ruls, List.getD_cons_zero, hD, Pf.ty]
      exact ⟨hY.1, fun h => ⟨(hY.2 h).1, by rw [(hY.2 h).1], (hY.2 h).2⟩⟩
    · have hz : ¬ (rul t0 (L5)).2.e = 0 := fun h => b0 (H0.1.1 h)
      have hs : (drvs 5 name arg (.node tk tks) (.node uk uks) l none [t0] 0 unk).2 = false := by simp [drvs, pkid, hi0, b0]
      rw [drvF_fail hs]
      simp [rul, ruls, rulB, othM, firstF, flt0, hz, hL5]
  · obtain ⟨t0, t1, rfl⟩ := len2 (show (2 : Int) = ks.length from hn)
    have hi0 : ∀ a, innerM 6 name arg (.node tk tks) (.node uk uks) l 0 a = l := fun a => by simp [innerM]
    have hi1 : ∀ a, innerM 6 name arg (.node tk tks) (.node uk uks) l 1 a = l := fun a => by simp [innerM]
    have H0 := hc t0 (by simp) (l) (hl)
    unfold RD1 at H0 ⊢
    have hd : drv (.node 6 name arg num tk tks uk uks label place [t0, t1]) l none = drvF 6 name (.node tk tks) (.node uk uks) l none (drvs 6 name arg (.node tk tks) (.node uk uks) l none [t0, t1] 0 unk) := by simp [drv, pbad]
    rw [hd]
    clear hd
    by_cases b0 : (drv t0 (l) none).2 = true
    · obtain ⟨g0, gd0, hq0⟩ := H0.2 b0
      have z0 : (rul t0 (l)).2.e = 0 := H0.1.2 b0
      have H1 := hc t1 (by simp) (l) (hl)
      unfold RD1 at H1
      by_cases b1 : (drv t1 (l) none).2 = true
      · obtain ⟨g1, gd1, hq1⟩ := H1.2 b1
        have z1 : (rul t1 (l)).2.e = 0 := H1.1.2 b1
        have hs : drvs 6 name arg (.node tk tks) (.node uk uks) l none [t0, t1] 0 unk = ([(drv t0 (l) none).1, (drv t1 (l) none).1], true) := by simp [drvs, pkid, hi0, hi1, b0, b1]
        rw [hs, drvF_ok (by decide)]
        have hD : dvds 6 name arg (.node tk tks) (.node uk uks) l (rul t0 l).1 [t0, t1] 0 = [(drv t0 (l) none).1, (drv t1 (l) none).1] := by simp [dvds, hi0, hi1, gd0, gd1]
        have hR : rul (.node 6 name arg num tk tks uk uks label place [t0, t1]) l = restM 6 name (.node tk tks) place [(rul t0 (l)).1, (rul t1 (l)).1] := by simp [rul, ruls, rulB, othM, firstF, flt0, z0, z1]
        have hY : RY (restM 6 name (.node tk tks) place [(rul t0 (l)).1, (rul t1 (l)).1]) (ruleM 6 name (.node tk tks) (.node uk uks) [(rul t0 (l)).1, (rul t1 (l)).1]) := by
          refine rest_ok 6 (by simp) name place (fun h => absurd h (by decide)) (fun i => ?_)
          match i with
          | 0 => exact hq0
          | 1 => exact hq1
          | _ + 2 => exact right_one (.inl rfl)
        have hm : [(drv t0 (l) none).1, (drv t1 (l) none).1].map Pf.ty = [(rul t0 (l)).1, (rul t1 (l)).1] := by simp only [List.map_cons, List.map_nil, ← g0, ← g1]
        rw [dvd, hR, hm]
        simp only [ruls, List.getD_cons_zero, hD, Pf.ty]
        exact ⟨hY.1, fun h => ⟨(hY.2 h).1, by rw [(hY.2 h).1], (hY.2 h).2⟩⟩
      · have hz : ¬ (rul t1 (l)).2.e = 0 := fun h => b1 (H1.1.1 h)
        have hs : (drvs 6 name arg (.node tk tks) (.node uk uks) l none [t0, t1] 0 unk).2 = false := by simp [drvs, pkid, hi0, hi1, b0, b1]
        rw [drvF_fail hs]
        simp [rul, ruls, rulB, othM, firstF, flt0, hz, z0]
    · have hz : ¬ (rul t0 (l)).2.e = 0 := fun h => b0 (H0.1.1 h)
      have hs : (drvs 6 name arg (.node tk tks) (.node uk uks) l none [t0, t1] 0 unk).2 = false := by simp [drvs, pkid, hi0, b0]
      rw [drvF_fail hs]
      simp [rul, ruls, rulB, othM, firstF, flt0, hz]
  · obtain ⟨t0, t1, rfl⟩ := len2 (show (2 : Int) = ks.length from hn)
    have hT : tright (.node tk tks) = true := hT (by decide)
    have hi0 : ∀ a, innerM 7 name arg (.node tk tks) (.node uk uks) l 0 a = l := fun a => by simp [innerM]
    have hi1 : ∀ a, innerM 7 name arg (.node tk tks) (.node uk uks) l 1 a = l ++ [⟨name, .node tk tks⟩] := fun a => by simp [innerM]
    have H0 := hc t0 (by simp) (l) (hl)
    unfold RD1 at H0 ⊢
    have hd : drv (.node 7 name arg num tk tks uk uks label place [t0, t1]) l none = drvF 7 name (.node tk tks) (.node uk uks) l none (drvs 7 name arg (.node tk tks) (.node uk uks) l none [t0, t1] 0 unk) := by simp [drv, pbad]
    rw [hd]
    clear hd
    by_cases b0 : (drv t0 (l) none).2 = true
    · obtain ⟨g0, gd0, hq0⟩ := H0.2 b0
      have z0 : (rul t0 (l)).2.e = 0 := H0.1.2 b0
      have H1 := hc t1 (by simp) (l ++ [⟨name, .node tk tks⟩]) (rights_snoc hl _ hT)
      unfold RD1 at H1
      by_cases b1 : (drv t1 (l ++ [⟨name, .node tk tks⟩]) none).2 = true
      · obtain ⟨g1, gd1, hq1⟩ := H1.2 b1
        have z1 : (rul t1 (l ++ [⟨name, .node tk tks⟩])).2.e = 0 := H1.1.2 b1
        have hs : drvs 7 name arg (.node tk tks) (.node uk uks) l none [t0, t1] 0 unk = ([(drv t0 (l) none).1, (drv t1 (l ++ [⟨name, .node tk tks⟩]) none).1], true) := by simp [drvs, pkid, hi0, hi1, b0, b1]
        rw [hs, drvF_ok (by decide)]
        have hD : dvds 7 name arg (.node tk tks) (.node uk uks) l (rul t0 l).1 [t0, t1] 0 = [(drv t0 (l) none).1, (drv t1 (l ++ [⟨name, .node tk tks⟩]) none).1] := by simp [dvds, hi0, hi1, gd0, gd1]
        have hR : rul (.node 7 name arg num tk tks uk uks label place [t0, t1]) l = (if agreeS (rul t0 l).1 (.node tk tks) = false then failM 91 place else rul t1 (l ++ [⟨name, .node tk tks⟩])) := by simp [rul, ruls, rulB, othM, firstF, flt0, z0, z1]
        have hY : RY ((if agreeS (rul t0 l).1 (.node tk tks) = false then failM 91 place else rul t1 (l ++ [⟨name, .node tk tks⟩]))) (ruleM 7 name (.node tk tks) (.node uk uks) [(rul t0 (l)).1, (rul t1 (l ++ [⟨name, .node tk tks⟩])).1]) := by
          simp only [ruleM, Int.reduceEq, if_false, if_true, or_self, List.getD_cons_zero, List.getD_cons_succ]
          cases agreeS (rul t0 l).1 (.node tk tks) <;> simp only [Bool.true_eq_false, if_true, if_false]
          · exact .fail (by decide)
          · exact ⟨by simp [z1], fun _ => ⟨rfl, hq1⟩⟩
        have hm : [(drv t0 (l) none).1, (drv t1 (l ++ [⟨name, .node tk tks⟩]) none).1].map Pf.ty = [(rul t0 (l)).1, (rul t1 (l ++ [⟨name, .node tk tks⟩])).1] := by simp only [List.map_cons, List.map_nil, ← g0, ← g1]
        rw [dvd, hR, hm]
        simp only [ruls, List.getD_cons_zero, hD, Pf.ty]
        exact ⟨hY.1, fun h => ⟨(hY.2 h).1, by rw [(hY.2 h).1], (hY.2 h).2⟩⟩
      · have hz : ¬ (rul t1 (l ++ [⟨name, .node tk tks⟩])).2.e = 0 := fun h => b1 (H1.1.1 h)
        have hs : (drvs 7 name arg (.node tk tks) (.node uk uks) l none [t0, t1] 0 unk).2 = false := by simp [drvs, pkid, hi0, hi1, b0, b1]
        rw [drvF_fail hs]
        by_cases ha : agreeS (rul t0 l).1 (.node tk tks) = false <;> simp [rul, ruls, rulB, failM, hz, z0, ha]
    · have hz : ¬ (rul t0 (l)).2.e = 0 := fun h => b0 (H0.1.1 h)
      have hs : (drvs 7 name arg (.node tk tks) (.node uk uks) l none [t0, t1] 0 unk).2 = false := by simp [drvs, pkid, hi0, b0]
      rw [drvF_fail hs]
      simp [rul, ruls, rulB, othM, firstF, flt0, hz]
  · obtain ⟨t0, t1, t2, rfl⟩ := len3 (show (3 : Int) = ks.length from hn)
    have hi0 : ∀ a, innerM 8 name arg (.node tk tks) (.node uk uks) l 0 a = l := fun a => by simp [innerM]
    have hi1 : ∀ a, innerM 8 name arg (.node tk tks) (.node uk uks) l 1 a = l := fun a => by simp [innerM]
    have hi2 : ∀ a, innerM 8 name arg (.node tk tks) (.node uk uks) l 2 a = l := fun a => by simp [innerM]
    have H0 := hc t0 (by simp) (l) (hl)
    unfold RD1 at H0 ⊢
    have hd : drv (.node 8 name arg num tk tks uk uks label place [t0, t1, t2]) l none = drvF 8 name (.node tk tks) (.node uk uks) l none (drvs 8 name arg (.node tk tks) (.node uk uks) l none [t0, t1, t2] 0 unk) := by simp [drv, pbad]
    rw [hd]
    clear hd
    by_cases b0 : (drv t0 (l) none).2 = true
    · obtain ⟨g0, gd0, hq0⟩ := H0.2 b0
      have z0 : (rul t0 (l)).2.e = 0 := H0.1.2 b0
      have H1 := hc t1 (by simp) (l) (hl)
      unfold RD1 at H1
      by_cases b1 : (drv t1 (l) none).2 = true
      · obtain ⟨g1, gd1, hq1⟩ := H1.2 b1
        have z1 : (rul t1 (l)).2.e = 0 := H1.1.2 b1
        have H2 := hc t2 (by simp) (l) (hl)
        unfold RD1 at H2
        by_cases b2 : (drv t2 (l) none).2 = true
        · obtain ⟨g2, gd2, hq2⟩ := H2.2 b2
          have z2 : (rul t2 (l)).2.e = 0 := H2.1.2 b2
          have hs : drvs 8 name arg (.node tk tks) (.node uk uks) l none [t0, t1, t2] 0 unk = ([(drv t0 (l) none).1, (drv t1 (l) none).1, (drv t2 (l) none).1], true) := by simp [drvs, pkid, hi0, hi1, hi2, b0, b1, b2]
          rw [hs, drvF_ok (by decide)]
          have hD : dvds 8 name arg (.node tk tks) (.node uk uks) l (rul t0 l).1 [t0, t1, t2] 0 = [(drv t0 (l) none).1, (drv t1 (l) none).1, (drv t2 (l) none).1] := by simp [dvds, hi0, hi1, hi2, gd0, gd1, gd2]
          have hR : rul (.node 8 name arg num tk tks uk uks label place [t0, t1, t2]) l = restM 8 name (.node tk tks) place [(rul t0 (l)).1, (rul t1 (l)).1, (rul t2 (l)).1] := by simp [rul, ruls, rulB, othM, firstF, flt0, z0, z1, z2]
          have hY : RY (restM 8 name (.node tk tks) place [(rul t0 (l)).1, (rul t1 (l)).1, (rul t2 (l)).1]) (ruleM 8 name (.node tk tks) (.node uk uks) [(rul t0 (l)).1, (rul t1 (l)).1, (rul t2 (l)).1]) := by
            refine rest_ok 8 (by simp) name place (fun h => absurd h (by decide)) (fun i => ?_)
            match i with
            | 0 => exact hq0
            | 1 => exact hq1
            | 2 => exact hq2
            | _ + 3 => exact right_one (.inl rfl)
          have hm : [(drv t0 (l) none).1, (drv t1 (l) none).1, (drv t2 (l) none).1].map Pf.ty = [(rul t0 (l)).1, (rul t1 (l)).1, (rul t2 (l)).1] := by simp only [List.map_cons, List.map_nil, ← g0, ← g1, ← g2]
          rw [dvd, hR, hm]
          simp only [ruls, List.getD_cons_zero, hD, Pf.ty]
          exact ⟨hY.1, fun h => ⟨(hY.2 h).1, by rw [(hY.2 h).1], (hY.2 h).2⟩⟩
        · have hz : ¬ (rul t2 (l)).2.e = 0 := fun h => b2 (H2.1.1 h)
          have hs : (drvs 8 name arg (.node tk tks) (.node uk uks) l none [t0, t1, t2] 0 unk).2 = false := by simp [drvs, pkid, hi0, hi1, hi2, b0, b1, b2]
          rw [drvF_fail hs]
          simp [rul, ruls, rulB, othM, firstF, flt0, hz, z0, z1]
      · have hz : ¬ (rul t1 (l)).2.e = 0 := fun h => b1 (H1.1.1 h)
        have hs : (drvs 8 name arg (.node tk tks) (.node uk uks) l none [t0, t1, t2] 0 unk).2 = false := by simp [drvs, pkid, hi0, hi1, b0, b1]
        rw [drvF_fail hs]
        simp [rul, ruls, rulB, othM, firstF, flt0, hz, z0]
    · have hz : ¬ (rul t0 (l)).2.e = 0 := fun h => b0 (H0.1.1 h)
      have hs : (drvs 8 name arg (.node tk tks) (.node uk uks) l none [t0, t1, t2] 0 unk).2 = false := by simp [drvs, pkid, hi0, b0]
      rw [drvF_fail hs]
      simp [rul, ruls, rulB, othM, firstF, flt0, hz]
  · obtain ⟨t0, t1, rfl⟩ := len2 (show (2 : Int) = ks.length from hn)
    have hi0 : ∀ a, innerM 9 name arg (.node tk tks) (.node uk uks) l 0 a = l := fun a => by simp [innerM]
    have hi1 : ∀ a, innerM 9 name arg (.node tk tks) (.node uk uks) l 1 a = l := fun a => by simp [innerM]
    have H0 := hc t0 (by simp) (l) (hl)
    unfold RD1 at H0 ⊢
    have hd : drv (.node 9 name arg num tk tks uk uks label place [t0, t1]) l none = drvF 9 name (.node tk tks) (.node uk uks) l none (drvs 9 name arg (.node tk tks) (.node uk uks) l none [t0, t1] 0 unk) := by simp [drv, pbad]
    rw [hd]
    clear hd
    by_cases b0 : (drv t0 (l) none).2 = true
    · obtain ⟨g0, gd0, hq0⟩ := H0.2 b0
      have z0 : (rul t0 (l)).2.e = 0 := H0.1.2 b0
      have H1 := hc t1 (by simp) (l) (hl)
      unfold RD1 at H1
      by_cases b1 : (drv t1 (l) none).2 = true
      · obtain ⟨g1, gd1, hq1⟩ := H1.2 b1
        have z1 : (rul t1 (l)).2.e = 0 := H1.1.2 b1
        have hs : drvs 9 name arg (.node tk tks) (.node uk uks) l none [t0, t1] 0 unk = ([(drv t0 (l) none).1, (drv t1 (l) none).1], true) := by simp [drvs, pkid, hi0, hi1, b0, b1]
        rw [hs, drvF_ok (by decide)]
        have hD : dvds 9 name arg (.node tk tks) (.node uk uks) l (rul t0 l).1 [t0, t1] 0 = [(drv t0 (l) none).1, (drv t1 (l) none).1] := by simp [dvds, hi0, hi1, gd0, gd1]
        have hR : rul (.node 9 name arg num tk tks uk uks label place [t0, t1]) l = restM 9 name (.node tk tks) place [(rul t0 (l)).1, (rul t1 (l)).1] := by simp [rul, ruls, rulB, othM, firstF, flt0, z0, z1]
        have hY : RY (restM 9 name (.node tk tks) place [(rul t0 (l)).1, (rul t1 (l)).1]) (ruleM 9 name (.node tk tks) (.node uk uks) [(rul t0 (l)).1, (rul t1 (l)).1]) := by
          refine rest_ok 9 (by simp) name place (fun h => absurd h (by decide)) (fun i => ?_)
          match i with
          | 0 => exact hq0
          | 1 => exact hq1
          | _ + 2 => exact right_one (.inl rfl)
        have hm : [(drv t0 (l) none).1, (drv t1 (l) none).1].map Pf.ty = [(rul t0 (l)).1, (rul t1 (l)).1] := by simp only [List.map_cons, List.map_nil, ← g0, ← g1]
        rw [dvd, hR, hm]
        simp only [ruls, List.getD_cons_zero, hD, Pf.ty]
        exact ⟨hY.1, fun h => ⟨(hY.2 h).1, by rw [(hY.2 h).1], (hY.2 h).2⟩⟩
      · have hz : ¬ (rul t1 (l)).2.e = 0 := fun h => b1 (H1.1.1 h)
        have hs : (drvs 9 name arg (.node tk tks) (.node uk uks) l none [t0, t1] 0 unk).2 = false := by simp [drvs, pkid, hi0, hi1, b0, b1]
        rw [drvF_fail hs]
        simp [rul, ruls, rulB, othM, firstF, flt0, hz, z0]
    · have hz : ¬ (rul t0 (l)).2.e = 0 := fun h => b0 (H0.1.1 h)
      have hs : (drvs 9 name arg (.node tk tks) (.node uk uks) l none [t0, t1] 0 unk).2 = false := by simp [drvs, pkid, hi0, b0]
      rw [drvF_fail hs]
      simp [rul, ruls, rulB, othM, firstF, flt0, hz]
  · obtain ⟨t0, rfl⟩ := len1 (show (1 : Int) = ks.length from hn)
    have hi0 : ∀ a, innerM 10 name arg (.node tk tks) (.node uk uks) l 0 a = l := fun a => by simp [innerM]
    have H0 := hc t0 (by simp) (l) (hl)
    unfold RD1 at H0 ⊢
    have hd : drv (.node 10 name arg num tk tks uk uks label place [t0]) l none = drvF 10 name (.node tk tks) (.node uk uks) l none (drvs 10 name arg (.node tk tks) (.node uk uks) l none [t0] 0 unk) := by simp [drv, pbad]
    rw [hd]
    clear hd
    by_cases b0 : (drv t0 (l) none).2 = true
    · obtain ⟨g0, gd0, hq0⟩ := H0.2 b0
      have z0 : (rul t0 (l)).2.e = 0 := H0.1.2 b0
      have hs : drvs 10 name arg (.node tk tks) (.node uk uks) l none [t0] 0 unk = ([(drv t0 (l) none).1], true) := by simp [drvs, pkid, hi0, b0]
      rw [hs, drvF_ok (by decide)]
      have hD : dvds 10 name arg (.node tk tks) (.node uk uks) l (rul t0 l).1 [t0] 0 = [(drv t0 (l) none).1] := by simp [dvds, hi0, gd0]
      have hR : rul (.node 10 name arg num tk tks uk uks label place [t0]) l = restM 10 name (.node tk tks) place [(rul t0 (l)).1] := by simp [rul, ruls, rulB, othM, firstF, flt0, z0]
      have hY : RY (restM 10 name (.node tk tks) place [(rul t0 (l)).1]) (ruleM 10 name (.node tk tks) (.node uk uks) [(rul t0 (l)).1]) := by
        refine rest_ok 10 (by simp) name place (fun h => absurd h (by decide)) (fun i => ?_)
        match i with
        | 0 => exact hq0
        | _ + 1 => exact right_one (.inl rfl)
      have hm : [(drv t0 (l) none).1].map Pf.ty = [(rul t0 (l)).1] := by simp only [List.map_cons, List.map_nil, ← g0]
      rw [dvd, hR, hm]
      simp only [ruls, List.getD_cons_zero, hD, Pf.ty]
      exact ⟨hY.1, fun h => ⟨(hY.2 h).1, by rw [(hY.2 h).1], (hY.2 h).2⟩⟩
    · have hz : ¬ (rul t0 (l)).2.e = 0 := fun h => b0 (H0.1.1 h)
      have hs : (drvs 10 name arg (.node tk tks) (.node uk uks) l none [t0] 0 unk).2 = false := by simp [drvs, pkid, hi0, b0]
      rw [drvF_fail hs]
      simp [rul, ruls, rulB, othM, firstF, flt0, hz]
  · obtain ⟨t0, rfl⟩ := len1 (show (1 : Int) = ks.length from hn)
    have hi0 : ∀ a, innerM 11 name arg (.node tk tks) (.node uk uks) l 0 a = l := fun a => by simp [innerM]
    have H0 := hc t0 (by simp) (l) (hl)
    unfold RD1 at H0 ⊢
    have hd : drv (.node 11 name arg num tk tks uk uks label place [t0]) l none = drvF 11 name (.node tk tks) (.node uk uks) l none (drvs 11 name arg (.node tk tks) (.node uk uks) l none [t0] 0 unk) := by simp [drv, pbad]
    rw [hd]
    clear hd
    by_cases b0 : (drv t0 (l) none).2 = true
    · obtain ⟨g0, gd0, hq0⟩ := H0.2 b0
      have z0 : (rul t0 (l)).2.e = 0 := H0.1.2 b0
      have hs : drvs 11 name arg (.node tk tks) (.node uk uks) l none [t0] 0 unk = ([(drv t0 (l) none).1], true) := by simp [drvs, pkid, hi0, b0]
      rw [hs, drvF_ok (by decide)]
      have hD : dvds 11 name arg (.node tk tks) (.node uk uks) l (rul t0 l).1 [t0] 0 = [(drv t0 (l) none).1] := by simp [dvds, hi0, gd0]
      have hR : rul (.node 11 name arg num tk tks uk uks label place [t0]) l = restM 11 name (.node tk tks) place [(rul t0 (l)).1] := by simp [rul, ruls, rulB, othM, firstF, flt0, z0]
      have hY : RY (restM 11 name (.node tk tks) place [(rul t0 (l)).1]) (ruleM 11 name (.node tk tks) (.node uk uks) [(rul t0 (l)).1]) := by
        refine rest_ok 11 (by simp) name place (fun h => absurd h (by decide)) (fun i => ?_)
        match i with
        | 0 => exact hq0
        | _ + 1 => exact right_one (.inl rfl)
      have hm : [(drv t0 (l) none).1].map Pf.ty = [(rul t0 (l)).1] := by simp only [List.map_cons, List.map_nil, ← g0]
      rw [dvd, hR, hm]
      simp only [ruls, List.getD_cons_zero, hD, Pf.ty]
      exact ⟨hY.1, fun h => ⟨(hY.2 h).1, by rw [(hY.2 h).1], (hY.2 h).2⟩⟩
    · have hz : ¬ (rul t0 (l)).2.e = 0 := fun h => b0 (H0.1.1 h)
      have hs : (drvs 11 name arg (.node tk tks) (.node uk uks) l none [t0] 0 unk).2 = false := by simp [drvs, pkid, hi0, b0]
      rw [drvF_fail hs]
      simp [rul, ruls, rulB, othM, firstF, flt0, hz]
  · obtain ⟨t0, rfl⟩ := len1 (show (1 : Int) = ks.length from hn)
    have hT : tright (.node tk tks) = true := hT (by decide)
    have hi0 : ∀ a, innerM 12 name arg (.node tk tks) (.node uk uks) l 0 a = l := fun a => by simp [innerM]
    have H0 := hc t0 (by simp) (l) (hl)
    unfold RD1 at H0 ⊢
    have hd : drv (.node 12 name arg num tk tks uk uks label place [t0]) l none = drvF 12 name (.node tk tks) (.node uk uks) l none (drvs 12 name arg (.node tk tks) (.node uk uks) l none [t0] 0 unk) := by simp [drv, pbad]
    rw [hd]
    clear hd
    by_cases b0 : (drv t0 (l) none).2 = true
    · obtain ⟨g0, gd0, hq0⟩ := H0.2 b0
      have z0 : (rul t0 (l)).2.e = 0 := H0.1.2 b0
      have hs : drvs 12 name arg (.node tk tks) (.node uk uks) l none [t0] 0 unk = ([(drv t0 (l) none).1], true) := by simp [drvs, pkid, hi0, b0]
      rw [hs, drvF_ok (by decide)]
      have hD : dvds 12 name arg (.node tk tks) (.node uk uks) l (rul t0 l).1 [t0] 0 = [(drv t0 (l) none).1] := by simp [dvds, hi0, gd0]
      have hR : rul (.node 12 name arg num tk tks uk uks label place [t0]) l = restM 12 name (.node tk tks) place [(rul t0 (l)).1] := by simp [rul, ruls, rulB, othM, firstF, flt0, z0]
      have hY : RY (restM 12 name (.node tk tks) place [(rul t0 (l)).1]) (ruleM 12 name (.node tk tks) (.node uk uks) [(rul t0 (l)).1]) := by
        refine rest_ok 12 (by simp) name place (fun h => hT) (fun i => ?_)
        match i with
        | 0 => exact hq0
        | _ + 1 => exact right_one (.inl rfl)
      have hm : [(drv t0 (l) none).1].map Pf.ty = [(rul t0 (l)).1] := by simp only [List.map_cons, List.map_nil, ← g0]
      rw [dvd, hR, hm]
      simp only [ruls, List.getD_cons_zero, hD, Pf.ty]
      exact ⟨hY.1, fun h => ⟨(hY.2 h).1, by rw [(hY.2 h).1], (hY.2 h).2⟩⟩
    · have hz : ¬ (rul t0 (l)).2.e = 0 := fun h => b0 (H0.1.1 h)
      have hs : (drvs 12 name arg (.node tk tks) (.node uk uks) l none [t0] 0 unk).2 = false := by simp [drvs, pkid, hi0, b0]
      rw [drvF_fail hs]
      simp [rul, ruls, rulB, othM, firstF, flt0, hz]
  · obtain ⟨t0, rfl⟩ := len1 (show (1 : Int) = ks.length from hn)
    have hT : tright (.node tk tks) = true := hT (by decide)
    have hi0 : ∀ a, innerM 13 name arg (.node tk tks) (.node uk uks) l 0 a = l := fun a => by simp [innerM]
    have H0 := hc t0 (by simp) (l) (hl)
    unfold RD1 at H0 ⊢
    have hd : drv (.node 13 name arg num tk tks uk uks label place [t0]) l none = drvF 13 name (.node tk tks) (.node uk uks) l none (drvs 13 name arg (.node tk tks) (.node uk uks) l none [t0] 0 unk) := by simp [drv, pbad]
    rw [hd]
    clear hd
    by_cases b0 : (drv t0 (l) none).2 = true
    · obtain ⟨g0, gd0, hq0⟩ := H0.2 b0
      have z0 : (rul t0 (l)).2.e = 0 := H0.1.2 b0
      have hs : drvs 13 name arg (.node tk tks) (.node uk uks) l none [t0] 0 unk = ([(drv t0 (l) none).1], true) := by simp [drvs, pkid, hi0, b0]
      rw [hs, drvF_ok (by decide)]
      have hD : dvds 13 name arg (.node tk tks) (.node uk uks) l (rul t0 l).1 [t0] 0 = [(drv t0 (l) none).1] := by simp [dvds, hi0, gd0]
      have hR : rul (.node 13 name arg num tk tks uk uks label place [t0]) l = restM 13 name (.node tk tks) place [(rul t0 (l)).1] := by simp [rul, ruls, rulB, othM, firstF, flt0, z0]
      have hY : RY (restM 13 name (.node tk tks) place [(rul t0 (l)).1]) (ruleM 13 name (.node tk tks) (.node uk uks) [(rul t0 (l)).1]) := by
        refine rest_ok 13 (by simp) name place (fun h => hT) (fun i => ?_)
        match i with
        | 0 => exact hq0
        | _ + 1 => exact right_one (.inl rfl)
      have hm : [(drv t0 (l) none).1].map Pf.ty = [(rul t0 (l)).1] := by simp only [List.map_cons, List.map_nil, ← g0]
      rw [dvd, hR, hm]
      simp only [ruls, List.getD_cons_zero, hD, Pf.ty]
      exact ⟨hY.1, fun h => ⟨(hY.2 h).1, by rw [(hY.2 h).1], (hY.2 h).2⟩⟩
    · have hz : ¬ (rul t0 (l)).2.e = 0 := fun h => b0 (H0.1.1 h)
      have hs : (drvs 13 name arg (.node tk tks) (.node uk uks) l none [t0] 0 unk).2 = false := by simp [drvs, pkid, hi0, b0]
      rw [drvF_fail hs]
      simp [rul, ruls, rulB, othM, firstF, flt0, hz]
  · obtain ⟨t0, t1, t2, rfl⟩ := len3 (show (3 : Int) = ks.length from hn)
    have hi0 : ∀ a, innerM 14 name arg (.node tk tks) (.node uk uks) l 0 a = l := fun a => by simp [innerM]
    have hi1 : ∀ a, innerM 14 name arg (.node tk tks) (.node uk uks) l 1 a = l ++ [⟨name, asL 5 a⟩] := fun a => by simp [innerM]
    have hi2 : ∀ a, innerM 14 name arg (.node tk tks) (.node uk uks) l 2 a = l ++ [⟨arg, asR 5 a⟩] := fun a => by simp [innerM]
    have H0 := hc t0 (by simp) (l) (hl)
    unfold RD1 at H0 ⊢
    have hd : drv (.node 14 name arg num tk tks uk uks label place [t0, t1, t2]) l none = drvF 14 name (.node tk tks) (.node uk uks) l none (drvs 14 name arg (.node tk tks) (.node uk uks) l none [t0, t1, t2] 0 unk) := by simp [drv, pbad]
    rw [hd]
    clear hd
    by_cases b0 : (drv t0 (l) none).2 = true
    · obtain ⟨g0, gd0, hq0⟩ := H0.2 b0
      have z0 : (rul t0 (l)).2.e = 0 := H0.1.2 b0
      have hy1 : asB 5 (rul t0 l).1 = false → (drvF 14 name (.node tk tks) (.node uk uks) l none (drvs 14 name arg (.node tk tks) (.node uk uks) l none [t0, t1, t2] 0 unk)).2 = false := fun hb => by
        by_cases y1 : (drv t1 (l ++ [⟨name, asL 5 (drv t0 l none).1.ty⟩]) none).2 = true
        · by_cases y2 : (drv t2 (l ++ [⟨arg, asR 5 (drv t0 l none).1.ty⟩]) none).2 = true
          · have hs : drvs 14 name arg (.node tk tks) (.node uk uks) l none [t0, t1, t2] 0 unk = ([(drv t0 l none).1, (drv t1 (l ++ [⟨name, asL 5 (drv t0 l none).1.ty⟩]) none).1, (drv t2 (l ++ [⟨arg, asR 5 (drv t0 l none).1.ty⟩]) none).1], true) := by simp [drvs, pkid, hi0, hi1, hi2, b0, y1, y2]
            rw [hs, drvF_ok (by decide)]
            simp [ruleM, ← g0, hb]
          · exact drvF_fail (by simp [drvs, pkid, hi0, hi1, hi2, b0, y1, y2])
        · exact drvF_fail (by simp [drvs, pkid, hi0, hi1, b0, y1])
      by_cases hB : asB 5 (rul t0 l).1 = true
      rotate_left
      · have hB : asB 5 (rul t0 l).1 = false := by simpa using hB
        rw [hy1 hB]
        simp [rul, ruls, rulB, z0, hB, failM]
      clear hy1
      have H1 := hc t1 (by simp) (l ++ [⟨name, asL 5 (rul t0 l).1⟩]) (rights_snoc hl _ (right_asL 5 hq0))
      unfold RD1 at H1
      by_cases b1 : (drv t1 (l ++ [⟨name, asL 5 (rul t0 l).1⟩]) none).2 = true
      · obtain ⟨g1, gd1, hq1⟩ := H1.2 b1
        have z1 : (rul t1 (l ++ [⟨name, asL 5 (rul t0 l).1⟩])).2.e = 0 := H1.1.2 b1
        have H2 := hc t2 (by simp) (l ++ [⟨arg, asR 5 (rul t0 l).1⟩]) (rights_snoc hl _ (right_asR 5 hq0))
        unfold RD1 at H2
        by_cases b2 : (drv t2 (l ++ [⟨arg, asR 5 (rul t0 l).1⟩]) none).2 = true
        · obtain ⟨g2, gd2, hq2⟩ := H2.2 b2
          have z2 : (rul t2 (l ++ [⟨arg, asR 5 (rul t0 l).1⟩])).2.e = 0 := H2.1.2 b2
          have hs : drvs 14 name arg (.node tk tks) (.node uk uks) l none [t0, t1, t2] 0 unk = ([(drv t0 (l) none).1, (drv t1 (l ++ [⟨name, asL 5 (rul t0 l).1⟩]) none).1, (drv t2 (l ++ [⟨arg, asR 5 (rul t0 l).1⟩]) none).1], true) := by simp [drvs, pkid, hi0, hi1, hi2, b0, b1, b2, ← g0]
          rw [hs, drvF_ok (by decide)]
          have hD : dvds 14 name arg (.node tk tks) (.node uk uks) l (rul t0 l).1 [t0, t1, t2] 0 = [(drv t0 (l) none).1, (drv t1 (l ++ [⟨name, asL 5 (rul t0 l).1⟩]) none).1, (drv t2 (l ++ [⟨arg, asR 5 (rul t0 l).1⟩]) none).1] := by simp [dvds, hi0, hi1, hi2, gd0, gd1, gd2]
          have hR : rul (.node 14 name arg num tk tks uk uks label place [t0, t1, t2]) l = (if agreeS (rul t1 (l ++ [⟨name, asL 5 (rul t0 l).1⟩])).1 (rul t2 (l ++ [⟨arg, asR 5 (rul t0 l).1⟩])).1 = false then failM 91 place else fineM (MeetS (rul t1 (l ++ [⟨name, asL 5 (rul t0 l).1⟩])).1 (rul t2 (l ++ [⟨arg, asR 5 (rul t0 l).1⟩])).1) place) := by simp [rul, ruls, rulB, othM, firstF, flt0, z0, z1, z2, hB]
          have hY : RY ((if agreeS (rul t1 (l ++ [⟨name, asL 5 (rul t0 l).1⟩])).1 (rul t2 (l ++ [⟨arg, asR 5 (rul t0 l).1⟩])).1 = false then failM 91 place else fineM (MeetS (rul t1 (l ++ [⟨name, asL 5 (rul t0 l).1⟩])).1 (rul t2 (l ++ [⟨arg, asR 5 (rul t0 l).1⟩])).1) place)) (ruleM 14 name (.node tk tks) (.node uk uks) [(rul t0 (l)).1, (rul t1 (l ++ [⟨name, asL 5 (rul t0 l).1⟩])).1, (rul t2 (l ++ [⟨arg, asR 5 (rul t0 l).1⟩])).1]) := by
            simp only [ruleM, Int.reduceEq, if_false, if_true, or_self, List.getD_cons_zero, List.getD_cons_succ, hB, Bool.true_and]
            have hm := RY.fine (Meet_right (rul t1 (l ++ [⟨name, asL 5 (rul t0 l).1⟩])).1 (rul t2 (l ++ [⟨arg, asR 5 (rul t0 l).1⟩])).1) place
            cases agreeS (rul t1 (l ++ [⟨name, asL 5 (rul t0 l).1⟩])).1 (rul t2 (l ++ [⟨arg, asR 5 (rul t0 l).1⟩])).1 <;> simp only [Bool.true_and, Bool.false_and, Bool.true_eq_false, if_true, if_false] <;> first | exact .fail (by decide) | exact hm
          have hm : [(drv t0 (l) none).1, (drv t1 (l ++ [⟨name, asL 5 (rul t0 l).1⟩]) none).1, (drv t2 (l ++ [⟨arg, asR 5 (rul t0 l).1⟩]) none).1].map Pf.ty = [(rul t0 (l)).1, (rul t1 (l ++ [⟨name, asL 5 (rul t0 l).1⟩])).1, (rul t2 (l ++ [⟨arg, asR 5 (rul t0 l).1⟩])).1] := by simp only [List.map_cons, List.map_nil, ← g0, ← g1, ← g2]
          rw [dvd, hR, hm]
          simp only [ruls, List.getD_cons_zero, hD, Pf.ty]
          exact ⟨hY.1, fun h => ⟨(hY.2 h).1, by rw [(hY.2 h).1], (hY.2 h).2⟩⟩
        · have hz : ¬ (rul t2 (l ++ [⟨arg, asR 5 (rul t0 l).1⟩])).2.e = 0 := fun h => b2 (H2.1.1 h)
          have hs : (drvs 14 name arg (.node tk tks) (.node uk uks) l none [t0, t1, t2] 0 unk).2 = false := by simp [drvs, pkid, hi0, hi1, hi2, b0, b1, b2, ← g0]
          rw [drvF_fail hs]
          simp [rul, ruls, rulB, othM, firstF, flt0, hz, z0, z1, hB]
      · have hz : ¬ (rul t1 (l ++ [⟨name, asL 5 (rul t0 l).1⟩])).2.e = 0 := fun h => b1 (H1.1.1 h)
        have hs : (drvs 14 name arg (.node tk tks) (.node uk uks) l none [t0, t1, t2] 0 unk).2 = false := by simp [drvs, pkid, hi0, hi1, b0, b1, ← g0]
        rw [drvF_fail hs]
        simp [rul, ruls, rulB, othM, firstF, flt0, hz, z0, hB]
    · have hz : ¬ (rul t0 (l)).2.e = 0 := fun h => b0 (H0.1.1 h)
      have hs : (drvs 14 name arg (.node tk tks) (.node uk uks) l none [t0, t1, t2] 0 unk).2 = false := by simp [drvs, pkid, hi0, b0]
      rw [drvF_fail hs]
      simp [rul, ruls, rulB, othM, firstF, flt0, hz]
  · obtain ⟨t0, t1, rfl⟩ := len2 (show (2 : Int) = ks.length from hn)
    have hi0 : ∀ a, innerM 15 name arg (.node tk tks) (.node uk uks) l 0 a = l := fun a => by simp [innerM]
    have hi1 : ∀ a, innerM 15 name arg (.node tk tks) (.node uk uks) l 1 a = l := fun a => by simp [innerM]
    have H0 := hc t0 (by simp) (l) (hl)
    unfold RD1 at H0 ⊢
    have hd : drv (.node 15 name arg num tk tks uk uks label place [t0, t1]) l none = drvF 15 name (.node tk tks) (.node uk uks) l none (drvs 15 name arg (.node tk tks) (.node uk uks) l none [t0, t1] 0 unk) := by simp [drv, pbad]
    rw [hd]
    clear hd
    by_cases b0 : (drv t0 (l) none).2 = true
    · obtain ⟨g0, gd0, hq0⟩ := H0.2 b0
      have z0 : (rul t0 (l)).2.e = 0 := H0.1.2 b0
      have H1 := hc t1 (by simp) (l) (hl)
      unfold RD1 at H1
      by_cases b1 : (drv t1 (l) none).2 = true
      · obtain ⟨g1, gd1, hq1⟩ := H1.2 b1
        have z1 : (rul t1 (l)).2.e = 0 := H1.1.2 b1
        have hs : drvs 15 name arg (.node tk tks) (.node uk uks) l none [t0, t1] 0 unk = ([(drv t0 (l) none).1, (drv t1 (l) none).1], true) := by simp [drvs, pkid, hi0, hi1, b0, b1]
        rw [hs, drvF_ok (by decide)]
        have hD : dvds 15 name arg (.node tk tks) (.node uk uks) l (rul t0 l).1 [t0, t1] 0 = [(drv t0 (l) none).1, (drv t1 (l) none).1] := by simp [dvds, hi0, hi1, gd0, gd1]
        have hR : rul (.node 15 name arg num tk tks uk uks label place [t0, t1]) l = restM 15 name (.node tk tks) place [(rul t0 (l)).1, (rul t1 (l)).1] := by simp [rul, ruls, rulB, othM, firstF, flt0, z0, z1]
        have hY : RY (restM 15 name (.node tk tks) place [(rul t0 (l)).1, (rul t1 (l)).1]) (ruleM 15 name (.node tk tks) (.node uk uks) [(rul t0 (l)).1, (rul t1 (l)).1]) := by
          refine rest_ok 15 (by simp) name place (fun h => absurd h (by decide)) (fun i => ?_)
          match i with
          | 0 => exact hq0
          | 1 => exact hq1
          | _ + 2 => exact right_one (.inl rfl)
        have hm : [(drv t0 (l) none).1, (drv t1 (l) none).1].map Pf.ty = [(rul t0 (l)).1, (rul t1 (l)).1] := by simp only [List.map_cons, List.map_nil, ← g0, ← g1]
        rw [dvd, hR, hm]
        simp only [ruls, List.getD_cons_zero, hD, Pf.ty]
        exact ⟨hY.1, fun h => ⟨(hY.2 h).1, by rw [(hY.2 h).1], (hY.2 h).2⟩⟩
      · have hz : ¬ (rul t1 (l)).2.e = 0 := fun h => b1 (H1.1.1 h)
        have hs : (drvs 15 name arg (.node tk tks) (.node uk uks) l none [t0, t1] 0 unk).2 = false := by simp [drvs, pkid, hi0, hi1, b0, b1]
        rw [drvF_fail hs]
        simp [rul, ruls, rulB, othM, firstF, flt0, hz, z0]
    · have hz : ¬ (rul t0 (l)).2.e = 0 := fun h => b0 (H0.1.1 h)
      have hs : (drvs 15 name arg (.node tk tks) (.node uk uks) l none [t0, t1] 0 unk).2 = false := by simp [drvs, pkid, hi0, b0]
      rw [drvF_fail hs]
      simp [rul, ruls, rulB, othM, firstF, flt0, hz]
  · obtain ⟨t0, rfl⟩ := len1 (show (1 : Int) = ks.length from hn)
    have hT : tright (.node tk tks) = true := hT (by decide)
    have hi0 : ∀ a, innerM 16 name arg (.node tk tks) (.node uk uks) l 0 a = l := fun a => by simp [innerM]
    have H0 := hc t0 (by simp) (l) (hl)
    unfold RD1 at H0 ⊢
    have hd : drv (.node 16 name arg num tk tks uk uks label place [t0]) l none = drvF 16 name (.node tk tks) (.node uk uks) l none (drvs 16 name arg (.node tk tks) (.node uk uks) l none [t0] 0 unk) := by simp [drv, pbad]
    rw [hd]
    clear hd
    by_cases b0 : (drv t0 (l) none).2 = true
    · obtain ⟨g0, gd0, hq0⟩ := H0.2 b0
      have z0 : (rul t0 (l)).2.e = 0 := H0.1.2 b0
      have hs : drvs 16 name arg (.node tk tks) (.node uk uks) l none [t0] 0 unk = ([(drv t0 (l) none).1], true) := by simp [drvs, pkid, hi0, b0]
      rw [hs, drvF_ok (by decide)]
      have hD : dvds 16 name arg (.node tk tks) (.node uk uks) l (rul t0 l).1 [t0] 0 = [(drv t0 (l) none).1] := by simp [dvds, hi0, gd0]
      have hR : rul (.node 16 name arg num tk tks uk uks label place [t0]) l = restM 16 name (.node tk tks) place [(rul t0 (l)).1] := by simp [rul, ruls, rulB, othM, firstF, flt0, z0]
      have hY : RY (restM 16 name (.node tk tks) place [(rul t0 (l)).1]) (ruleM 16 name (.node tk tks) (.node uk uks) [(rul t0 (l)).1]) := by
        refine rest_ok 16 (by simp) name place (fun h => hT) (fun i => ?_)
        match i with
        | 0 => exact hq0
        | _ + 1 => exact right_one (.inl rfl)
      have hm : [(drv t0 (l) none).1].map Pf.ty = [(rul t0 (l)).1] := by simp only [List.map_cons, List.map_nil, ← g0]
      rw [dvd, hR, hm]
      simp only [ruls, List.getD_cons_zero, hD, Pf.ty]
      exact ⟨hY.1, fun h => ⟨(hY.2 h).1, by rw [(hY.2 h).1], (hY.2 h).2⟩⟩
    · have hz : ¬ (rul t0 (l)).2.e = 0 := fun h => b0 (H0.1.1 h)
      have hs : (drvs 16 name arg (.node tk tks) (.node uk uks) l none [t0] 0 unk).2 = false := by simp [drvs, pkid, hi0, b0]
      rw [drvF_fail hs]
      simp [rul, ruls, rulB, othM, firstF, flt0, hz]
end Go.Proofs.YtlboogackecjlaaGreat.E
